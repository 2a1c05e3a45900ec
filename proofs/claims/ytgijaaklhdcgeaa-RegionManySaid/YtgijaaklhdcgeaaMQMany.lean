/- RegionMany: the walk (printed by mkmany.py) -/
import Derived.Test.YtgijaaklhdcgeaaMQChk0
import Derived.Test.YtgijaaklhdcgeaaMQPick
import Derived.Test.YtgijaaklhdcgeaaMRegP
import Derived.Test.YtgijaaklhdcgeaaMRegC
set_option linter.unusedSimpArgs false
set_option linter.unusedVariables false
namespace Go.Proofs.Ytgijaaklhdcgeaa
open Go.RowKit Go.Geo
attribute [local go_sem] Oper.semAt_some
theorem pts_lit (w : World) (P : List Pt) (hp : P.length ≤ 1000000) : IsPts (w.alloc (.cells (flatP P).toArray 27)) (some ⟨w.heap.size, 0, none⟩) P.length P.length P := by
  obtain ⟨ao, cap, e, h⟩ := (OwnP.lit w w.heap.size (Nat.le_refl _) P hp).pts
  cases e
  exact h
theorem pts_litP (w : World) (pt : Pt) {x y : Int} (hx : pt.x = x) (hy : pt.y = y) : IsPts (w.alloc (.cells #[.int .i64 x, .int .i64 y] 27)) (some ⟨w.heap.size, 0, none⟩) 1 1 [pt] := by
  subst hx hy
  exact pts_lit w [pt] (by simp)
def upP (i k : Nat) : Pt := ⟨50 * (i : Int) + 40 - 2 * ((k : Int) + 1), 9⟩
def upperP (i n : Nat) : List Pt := (List.range n).map (upP i)
theorem upperP_succ (i n : Nat) : upperP i (n + 1) = upperP i n ++ [upP i n] := by unfold upperP; rw [List.range_succ, List.map_append]; rfl
theorem upperP_len (i n : Nat) : (upperP i n).length = n := by unfold upperP; simp
set_option maxRecDepth 100000 in
set_option maxHeartbeats 1000000 in
theorem upper_any (i : Nat) (w : World) (hi : i ≤ 1000) : Calls Try.prog 10 #[.int .i64 i] w fun e w' => ∃ v, e = .returned v ∧ OwnP w' w.heap.size v (upperP i 16) ∧ Below w.heap.size w w' := by
  have hi0 : (0 : Int) ≤ (i : Int) := by omega
  have hi1 : (i : Int) ≤ 1000 := by omega
  have w1 : IntKind.i64.wrap (50 * (i : Int)) = 50 * (i : Int) := IntWalk.i64_in _ (by omega)
  have w2 : IntKind.i64.wrap (50 * (i : Int) + 40) = 50 * (i : Int) + 40 := IntWalk.i64_in _ (by omega)
  go_enter Try.func10, Try.ntmps10
  go_wp2_with fail
  go_loopw [3, 4] (fun v s wr => ∃ k : Nat, k ≤ 16 ∧ s = .int .i64 ((k : Int) + 1) ∧ Hid (OwnP wr w.heap.size v (upperP i k)) ∧ Hid (Below w.heap.size w wr)) (fun _ s _ => 17 - (intOf s).toNat)
  case atStart => exact ⟨0, by omega, rfl, Lib.hid (World.ownsRow_nil _ _ _ _), Below.refl _ _⟩
  case round =>
    obtain ⟨k, hk, rfl, hown, hbl⟩ := hrel
    by_cases hlt : k < 16
    · have hk0 : (0 : Int) ≤ (k : Int) := by omega
      have hk5 : (k : Int) + 1 ≤ 16 := by omega
      have w3 : IntKind.i64.wrap (2 * ((k : Int) + 1)) = 2 * ((k : Int) + 1) := IntWalk.i64_in _ (by omega)
      have w4 : IntKind.i64.wrap (50 * (i : Int) + 40 - 2 * ((k : Int) + 1)) = 50 * (i : Int) + 40 - 2 * ((k : Int) + 1) := IntWalk.i64_in _ (by omega)
      have w5 : IntKind.i64.wrap ((k : Int) + 1 + 1) = (k : Int) + 1 + 1 := IntWalk.i64_in _ (by omega)
      have HLN : Hid ((upperP i k).length + 1 ≤ 1000000000) := Lib.hid (by rw [upperP_len]; omega)
      have HS : Hid (upperP i (k + 1) = upperP i k ++ [upP i k]) := Lib.hid (upperP_succ i k)
      obtain ⟨L, hL⟩ : ∃ L, L = upperP i k := ⟨_, rfl⟩
      rw [← hL] at hown HLN HS
      clear hL
      go_wp2_with (
        at_builtin
        refine wpList_append_pts rfl _ _ rfl w.heap.size _ L rfl (hown.out.later ((Below.refl _ _).alloc (Nat.le_refl _) _)) _ _ _ [upP i k] rfl (pts_lit _ [upP i k] (by simp)) HLN.out (Nat.le_trans hbl.out.size (by simp)) ?_
        intro v6 w6 ho6 hg6
        have H6 := Lib.hid (And.intro ho6 ((hbl.out.alloc hbl.out.size _).grown hg6 (Nat.le_trans hbl.out.size (by simp)) (fun k hk => (hown.out.lt k hk).1)))
        clear ho6 hg6)
      go_roundw
      case rel => exact ⟨k + 1, by omega, by go_num, Lib.hid (by rw [HS.out]; exact H6.out.1), Lib.hid H6.out.2⟩
      case measure => simp [intOf]; omega
    · have hk16 : k = 16 := by omega
      subst hk16
      go_wp2_with fail
      go_ret
      exact ⟨_, rfl, hown.out, hbl.out⟩
def ring3 (i : Nat) : List Pt := [⟨50 * (i : Int), 0⟩, ⟨50 * (i : Int) + 40, 0⟩, ⟨50 * (i : Int) + 40, 9⟩]
def ringM (long : Bool) (i : Nat) : List Pt := ring3 i ++ (if long then upperP i 16 else []) ++ [⟨50 * (i : Int), 9⟩]
def ringsM (long : Bool) (n : Nat) : List (List Pt) := (List.range n).map (ringM long)
theorem ringsM_succ (long : Bool) (n : Nat) : ringsM long (n + 1) = ringsM long n ++ [ringM long n] := by unfold ringsM; rw [List.range_succ, List.map_append]; rfl
theorem ringsM_len (long : Bool) (n : Nat) : (ringsM long n).length = n := by unfold ringsM; simp
theorem ringM_len (long : Bool) (i : Nat) : (ringM long i).length ≤ 20 := by unfold ringM ring3; cases long <;> simp [upperP_len]
theorem ringsM_sum (long : Bool) : ∀ n, sumLen (ringsM long n) ≤ 20 * n
  | 0 => by simp [ringsM, sumLen]
  | n + 1 => by
    rw [ringsM_succ, sumLen_append]
    have := ringsM_sum long n
    have h2 := ringM_len long n
    simp [sumLen] at this ⊢
    omega
theorem opwp_append_rings {w : World} {o : Oper} {a : Act} {K : Act → World → Prop} {Q : Exit → Act → World → Prop} (s x : Operand)
    (ho : o.op = .call { callee := .builtin .append, args := #[s, x], argTypes := #[23, 23] })
    (base : Nat) (v : Value) (L : List (List Pt)) (hs : a.eval s = v) (hown : OwnR w base v L)
    (g : Nat) (hx : a.eval x = .slice (some ⟨g, 0, none⟩) 1 1) (au : Option Addr) (cu : Nat) (r : List Pt) (hu : OwnP w base (.slice au r.length cu) r) (hg : w.heap[g]? = some (.cells #[.slice au r.length cu] 28 (0, 0)))
    (hn : L.length ≤ 4294967296) (hbase : base ≤ w.heap.size)
    (h : ∀ v' w', OwnR w' base v' (L ++ [r]) → w.grownBy w' v.ownBlock → K (a.put o.dst v') w') : o.wp Try.prog a w K Q := by
  obtain ⟨i0, hi, hz0, hz1, hz2⟩ := info_parts' Try.infoPts
  obtain ⟨vs, h1, h2, h3⟩ := hown
  obtain ⟨v', w', hr, hx2, hgr, _⟩ := run_append_own (P := Try.prog) w base 23 o.type 28 i0 (.slice none 0 0) 1 24 Try.underlying23 hi hz0 hz1 hz2 rfl (by decide) v L.length vs h2 ⟨g, 0, none⟩ 1 1 [.slice au r.length cu] rfl
    (by
      intro j u hu
      match j, hu with
      | 0, hu =>
        simp at hu; subst hu
        rw [show (⟨g, 0, none⟩ : Addr).add 0 = ⟨g, 0, none⟩ from rfl, cell_of_row _ _ _ _ _ _ hg]; rfl)
    (by intro u hu; simp at hu; subst hu; rfl) (by unfold maxLen; omega) (by omega) hbase
  unfold Oper.wp execOp
  simp only [ho, resolve, invoke, builtin, Sem.run_bind, Sem.run_pure, Result.andThen_ok, List.map_toArray, List.map_cons, List.map_nil, hs, hx, hr]
  exact h v' w' (OwnR.snoc h1 h3 h2 hu hx2 hgr) hgr
/-- the stages of the round's last statement. -/
def ManyS (wi : World) (vl vr : Value) (P : List Pt) (pt : Pt) (R : List (List Pt)) (w0 : World) : List Value → World → Prop
  | [], wX => OwnP wX wi.heap.size vl P ∧ Below wi.heap.size wi wX
  | [v6], wX => OwnP wX wi.heap.size vl P ∧ (∃ g, v6 = .slice (some ⟨g, 0, none⟩) 1 1 ∧ IsPts wX (some ⟨g, 0, none⟩) 1 1 [pt]) ∧ Below wi.heap.size wi wX
  | [v6, v7], wX => OwnP wX wi.heap.size v7 (P ++ [pt]) ∧ Below wi.heap.size wi wX
  | [v6, v7, v8], wX => OwnP wX wi.heap.size v7 (P ++ [pt]) ∧ (∃ g, v8 = .slice (some ⟨g, 0, none⟩) 1 1 ∧ wX.heap[g]? = some (.cells #[v7] 28 (0, 0))) ∧ Below wi.heap.size wi wX
  | [v6, v7, v8, v9], wX => OwnR wX (w0.heap.size + 1) v9 (R ++ [P ++ [pt]]) ∧ wX.heap[w0.heap.size]? = some (.cells #[vr] 25 (0, 0)) ∧ Below w0.heap.size w0 wX
  | [v6, v7, v8, v9, v11], wX => (∃ u, wX.heap[w0.heap.size]? = some (.cells #[u] 25 (0, 0)) ∧ OwnR wX (w0.heap.size + 1) u (R ++ [P ++ [pt]])) ∧ Below w0.heap.size w0 wX
  | _, _ => False
set_option maxRecDepth 100000 in
set_option maxHeartbeats 8000000 in
theorem RegionMany_any (n : Int) (long : Bool) (w : World) :
    Calls Try.prog 3 #[.int .i64 n, .bool long] w fun e w' => e = .returned (.bool true) ∧ Below w.heap.size w w' := by
  have HP := Lib.hid (Pick_any n 5 w (by omega))
  have HAW0 := Lib.hid awake_any
  have hpr : 0 ≤ pickP n 5 ∧ pickP n 5 < 5 := by
    unfold pickP
    rw [if_neg (by omega)]
    exact ⟨Int.emod_nonneg _ (by omega), Int.emod_lt_of_pos _ (by omega)⟩
  obtain ⟨N, hN⟩ : ∃ N : Nat, (N : Int) = 18 + pickP n 5 := ⟨(18 + pickP n 5).toNat, by omega⟩
  obtain ⟨q, hq⟩ : ∃ q, q = pickP n 5 := ⟨_, rfl⟩
  rw [← hq] at HP hN hpr
  have hN1 : N ≤ 22 := by omega
  have hN2 : 18 ≤ N := by omega
  have hs : IntKind.i64.wrap (18 + q) = (N : Int) := by rw [hN]; exact IntWalk.i64_in _ (by omega)
  obtain ⟨hq1, hq2⟩ := hpr
  have hs2 : 18 + q = (N : Int) := hN.symm
  clear hq hN
  go_enter Try.func3, Try.ntmps3
  go_wp2_with fail
  refine HP.out.mono ?_
  rintro e w' ⟨rfl, rfl⟩
  have HST : Hid ((w.alloc (.cells #[.slice none 0 0] 25)).heap[w.heap.size]? = some (.cells #[.slice none 0 0] 25 (0, 0)) ∧ Below w.heap.size w (w.alloc (.cells #[.slice none 0 0] 25))) := Lib.hid ⟨alloc_new _ _, (Below.refl _ _).alloc (Nat.le_refl _) _⟩
  go_wp2_with fail
  clear hs hs2 hq1 hq2
  go_loopw [6] (fun s wr => ∃ k : Nat, k ≤ N ∧ s = .int .i64 k ∧ Hid (∃ u, wr.heap[w.heap.size]? = some (.cells #[u] 25 (0, 0)) ∧ OwnR wr (w.heap.size + 1) u (ringsM long k)) ∧ Hid (Below w.heap.size w wr)) (fun s _ => N - (intOf s).toNat)
  case atStart => exact ⟨0, by omega, rfl, Lib.hid ⟨_, HST.out.1, OwnR.nil _ _⟩, Lib.hid HST.out.2⟩
  case round =>
    obtain ⟨k, hk, rfl, hrg, hbl⟩ := hrel
    by_cases hlt : k < N
    · have hk0 : (0 : Int) ≤ (k : Int) := by omega
      have hk5 : (k : Int) < (N : Int) := by omega
      have hk6 : (k : Int) ≤ 22 := by omega
      have w1 : IntKind.i64.wrap (50 * (k : Int)) = 50 * (k : Int) := IntWalk.i64_in _ (by omega)
      have w2 : IntKind.i64.wrap (50 * (k : Int) + 40) = 50 * (k : Int) + 40 := IntWalk.i64_in _ (by omega)
      have HSU : Hid (ringsM long (k + 1) = ringsM long k ++ [ringM long k]) := Lib.hid (ringsM_succ long k)
      have HRL : Hid ((ringsM long k).length ≤ 4294967296) := Lib.hid (by rw [ringsM_len]; omega)
      obtain ⟨R, hR⟩ : ∃ R, R = ringsM long k := ⟨_, rfl⟩
      rw [← hR] at hrg HSU HRL
      have HR0 := Lib.hid hR
      have HUP := Lib.hid (upper_any k)
      have hwlt : w.heap.size < wr.heap.size := by obtain ⟨u, h1, _⟩ := hrg.out; exact heap_lt' h1
      have HWL := Lib.hid hwlt
      clear hR hwlt
      obtain ⟨vr, hvr, hown⟩ := hrg.out
      have HG := Lib.hid hvr
      have HOR := Lib.hid hown
      have HWI : Hid (w.heap.size + 1 ≤ wr.heap.size) := Lib.hid HWL.out
      have HBW := hbl
      have HCELL : Hid (∀ wX, Below wr.heap.size wr wX → wX.cell? ⟨w.heap.size, 0, none⟩ = some vr) := Lib.hid (fun wX hX => cell_of_row _ _ _ _ _ _ ((hX.block _ (heap_lt' HG.out)).trans HG.out))
      obtain ⟨pt, hpt⟩ : ∃ pt : Pt, pt = ⟨50 * (k : Int), 9⟩ := ⟨_, rfl⟩
      have HPT := Lib.hid hpt
      have hpx : pt.x = 50 * (k : Int) := by rw [hpt]
      have hpy : pt.y = 9 := by rw [hpt]
      have HPXY := Lib.hid (And.intro hpx hpy)
      have HL3 : Hid (OwnP (wr.alloc (.cells (flatP (ring3 k)).toArray 27)) wr.heap.size (.slice (some ⟨wr.heap.size, 0, none⟩) 3 3) (ring3 k)) := Lib.hid (OwnP.lit wr _ (Nat.le_refl _) (ring3 k) (by simp [ring3]))
      have HBA : Hid (Below wr.heap.size wr (wr.alloc (.cells (flatP (ring3 k)).toArray 27))) := Lib.hid ((Below.refl _ _).alloc (Nat.le_refl _) _)
      change Hid (OwnP (wr.alloc (.cells #[.int .i64 (50 * (k : Int)), .int .i64 0, .int .i64 (50 * (k : Int) + 40), .int .i64 0, .int .i64 (50 * (k : Int) + 40), .int .i64 9] 27)) _ _ _) at HL3
      change Hid (Below _ _ (wr.alloc (.cells #[.int .i64 (50 * (k : Int)), .int .i64 0, .int .i64 (50 * (k : Int) + 40), .int .i64 0, .int .i64 (50 * (k : Int) + 40), .int .i64 9] 27))) at HBA
      clear hvr hown hrg hpt hpx hpy
      cases long with
      | false =>
        obtain ⟨P, hP⟩ : ∃ P, P = ring3 k := ⟨_, rfl⟩
        have hringM : ringM false k = P ++ [pt] := by rw [hP, HPT.out]; unfold ringM; simp
        rw [hringM] at HSU
        rw [← hP] at HL3
        have HLP : Hid (P.length + 1 ≤ 1000000000) := Lib.hid (by rw [hP]; simp [ring3])
        clear hP hringM
        go_wp2_with fail
        obtain ⟨wi, hwi⟩ : ∃ W, W = wr.alloc (.cells #[.int .i64 (50 * (k : Int)), .int .i64 0, .int .i64 (50 * (k : Int) + 40), .int .i64 0, .int .i64 (50 * (k : Int) + 40), .int .i64 9] 27) := ⟨_, rfl⟩
        rw [← hwi] at HL3 HBA
        rw [← hwi]
        have HOWN := HL3
        have HBC := HBA
        clear hwi
        refine wp_region_J (s := [(33, 0), (34, 1), (35, 2), (36, 3), (37, 4), (38, 5), (39, 6), (40, 7), (41, 8), (42, 9), (43, 10)]) (by kernel_rfl) (ChainJ (fun iX => match iX with | 0 => some (.pointer (some ⟨w.heap.size, 0, none⟩)) | 1 => some (vr) | 2 => some (.slice (some ⟨wr.heap.size, 0, none⟩) 3 3) | 3 => some (.int .i64 (k : Int)) | 4 => some (.int .i64 (50 * (k : Int))) | 5 => some (.agg #[.int .i64 (50 * (k : Int)), .int .i64 9]) | 10 => some (.pointer (some ⟨w.heap.size, 0, none⟩)) | _ => none) [6, 7, 8, 9, 11] (ManyS wr (.slice (some ⟨wr.heap.size, 0, none⟩) 3 3) vr P pt R w)) (by kernel_rfl) (by kernel_rfl) (by kernel_rfl) (by kernel_rfl) (fun _ => undef) ?startF ?stepF ?doneF
        case startF => exact ChainJ.start ⟨HOWN.out, HBC.out.drew⟩
        case stepF =>
          refine ⟨?oF_0, ?oF_1, ?oF_2, ?oF_3, ?oF_4, ?oF_5, ?oF_6, ?oF_7, ?oF_8, ?oF_9, ?oF_10, ?oF_11, trivial⟩
          case oF_0 =>
            intro LX V aX wX K hl hp hcl hf hJ hK
            have t5 : aX.tmps[5]? = some (.pointer (some ⟨w.heap.size, 0, none⟩)) := hf.old (by kernel_rfl) rfl
            rw [if_pos (by rfl)]
            go_simp
            exact hK _ _ (hJ.val 0 _ (by kernel_rfl) rfl (fun _ h => h))
          case oF_1 =>
            intro LX V aX wX K hl hp hcl hf hJ hK
            have t33 := hf.in (i := 0) (d := 33) (by kernel_rfl) (hp 0 (by kernel_rfl)) (hJ.vals 0 _ rfl (hp 0 (by kernel_rfl)))
            rw [if_pos (by rfl)]
            obtain ⟨vs, hlen, hS⟩ := hJ.upto 3 (by decide) (hcl.no 9 (by kernel_rfl) hl)
            have hbX : Below wr.heap.size wr wX := by
              match vs, hlen, hS with
              | [], _, hS => exact hS.2
              | [_], _, hS => exact hS.2.2
              | [_, _], _, hS => exact hS.2
              | [_, _, _], _, hS => exact hS.2.2
              | _ :: _ :: _ :: _ :: _, h, _ => exact absurd h (by simp)
            have c0 := HCELL.out wX hbX
            go_simp
            exact hK _ _ (hJ.val 1 _ (by kernel_rfl) rfl (fun _ h => h))
          case oF_2 =>
            intro LX V aX wX K hl hp hcl hf hJ hK
            have t7 : aX.tmps[7]? = some (.slice (some ⟨wr.heap.size, 0, none⟩) 3 3) := hf.old (by kernel_rfl) rfl
            rw [if_pos (by rfl)]
            go_simp
            exact hK _ _ (hJ.val 2 _ (by kernel_rfl) rfl (fun _ h => h))
          case oF_3 =>
            intro LX V aX wX K hl hp hcl hf hJ hK
            have t6 : aX.tmps[6]? = some (.int .i64 (k : Int)) := hf.old (by kernel_rfl) rfl
            rw [if_pos (by rfl)]
            go_simp
            exact hK _ _ (hJ.val 3 _ (by kernel_rfl) rfl (fun _ h => h))
          case oF_4 =>
            intro LX V aX wX K hl hp hcl hf hJ hK
            have t36 := hf.in (i := 3) (d := 36) (by kernel_rfl) (hp 3 (by kernel_rfl)) (hJ.vals 3 _ rfl (hp 3 (by kernel_rfl)))
            rw [if_pos (by rfl)]
            go_simp
            exact hK _ _ (hJ.val 4 _ (by kernel_rfl) rfl (fun _ h => h))
          case oF_5 =>
            intro LX V aX wX K hl hp hcl hf hJ hK
            have t37 := hf.in (i := 4) (d := 37) (by kernel_rfl) (hp 4 (by kernel_rfl)) (hJ.vals 4 _ rfl (hp 4 (by kernel_rfl)))
            rw [if_pos (by rfl)]
            go_simp
            exact hK _ _ (hJ.val 5 _ (by kernel_rfl) rfl (fun _ h => h))
          case oF_6 =>
            intro LX V aX wX K hl hp hcl hf hJ hK
            have t38 := hf.in (i := 5) (d := 38) (by kernel_rfl) (hp 5 (by kernel_rfl)) (hJ.vals 5 _ rfl (hp 5 (by kernel_rfl)))
            rw [if_pos (by rfl)]
            obtain ⟨vs, hlen, hv, hS, hn⟩ := hJ.next (by kernel_rfl) 0 (by kernel_rfl) hl (.inl rfl) rfl
            match vs, hlen, hv, hS, hn with
            | [], _, hv, hS, hn =>
              go_simp
              exact hK _ _ (hn _ _ ⟨hS.1.later ((Below.refl _ _).alloc (Nat.le_refl _) _), ⟨_, rfl, pts_litP wX pt HPXY.out.1 HPXY.out.2⟩, hS.2.alloc hS.2.size _⟩)
          case oF_7 =>
            intro LX V aX wX K hl hp hcl hf hJ hK
            have t35 := hf.in (i := 2) (d := 35) (by kernel_rfl) (hp 2 (by kernel_rfl)) (hJ.vals 2 _ rfl (hp 2 (by kernel_rfl)))
            have t39 := hf.in (i := 6) (d := 39) (by kernel_rfl) (hp 6 (by kernel_rfl)) rfl
            rw [if_pos (by rfl)]
            obtain ⟨vs, hlen, hv, hS, hn⟩ := hJ.next (by kernel_rfl) 1 (by kernel_rfl) hl (.inr (hp 6 (by kernel_rfl))) rfl
            match vs, hlen, hv, hS, hn with
            | [a0], _, hv, hS, hn =>
              have e0 : V 6 = a0 := hv 0 (by decide)
              obtain ⟨h1, ⟨g, hg, hpt⟩, h2⟩ := hS
              rw [e0, hg] at t39
              refine opwp_append_ptsF _ _ rfl wr.heap.size _ P (eval_tmp t35) h1 _ _ _ [pt] (eval_tmp t39) hpt HLP.out h2.size ?_
              intro v' w' hown2 hgr hfr
              exact hK _ _ (hn _ _ ⟨hown2, h2.grown hgr h2.size (fun k hk => (h1.lt k hk).1)⟩)
          case oF_8 =>
            intro LX V aX wX K hl hp hcl hf hJ hK
            have t40 := hf.in (i := 7) (d := 40) (by kernel_rfl) (hp 7 (by kernel_rfl)) rfl
            rw [if_pos (by rfl)]
            obtain ⟨vs, hlen, hv, hS, hn⟩ := hJ.next (by kernel_rfl) 2 (by kernel_rfl) hl (.inr (hp 7 (by kernel_rfl))) rfl
            match vs, hlen, hv, hS, hn with
            | [a0, a1], _, hv, hS, hn =>
              have e0 : V 6 = a0 := hv 0 (by decide)
              have e1 : V 7 = a1 := hv 1 (by decide)
              obtain ⟨ao9, c9, hv9, _⟩ := OwnP.pts hS.1
              have hv9b := hv9
              generalize (P ++ [pt]).length = M at hv9
              rw [e1, hv9] at t40
              go_simp
              exact hK _ _ (hn _ _ ⟨hS.1.later ((Below.refl _ _).alloc (Nat.le_refl _) _), ⟨_, rfl, by rw [hv9]; exact alloc_new _ _⟩, hS.2.alloc hS.2.size _⟩)
          case oF_9 =>
            intro LX V aX wX K hl hp hcl hf hJ hK
            have t34 := hf.in (i := 1) (d := 34) (by kernel_rfl) (hp 1 (by kernel_rfl)) (hJ.vals 1 _ rfl (hp 1 (by kernel_rfl)))
            have t41 := hf.in (i := 8) (d := 41) (by kernel_rfl) (hp 8 (by kernel_rfl)) rfl
            rw [if_pos (by rfl)]
            obtain ⟨vs, hlen, hv, hS, hn⟩ := hJ.next (by kernel_rfl) 3 (by kernel_rfl) hl (.inr (hp 8 (by kernel_rfl))) rfl
            match vs, hlen, hv, hS, hn with
            | [a0, a1, a2], _, hv, hS, hn =>
              have e0 : V 6 = a0 := hv 0 (by decide)
              have e1 : V 7 = a1 := hv 1 (by decide)
              have e2 : V 8 = a2 := hv 2 (by decide)
              obtain ⟨h1, ⟨g, hg, hh⟩, h2⟩ := hS
              obtain ⟨ao9, c9, hv9, _⟩ := OwnP.pts h1
              rw [hv9] at hh h1
              rw [e2, hg] at t41
              refine opwp_append_rings _ _ rfl (w.heap.size + 1) vr R (eval_tmp t34) (HOR.out.later h2) g (eval_tmp t41) ao9 c9 (P ++ [pt]) (h1.base (Nat.le_trans HWI.out (Nat.le_refl _))) hh HRL.out (Nat.le_trans HWI.out h2.size) ?_
              intro v' w' hown2 hgr
              have hvlt : ∀ k, vr.ownBlock = some k → w.heap.size + 1 ≤ k := fun k hk => (HOR.out.lt k hk).1
              exact hK _ _ (hn _ _ ⟨hown2, (hgr.block _ (Nat.lt_of_lt_of_le (heap_lt' HG.out) h2.size) (fun e => by have := hvlt _ e.symm; omega)).trans ((h2.block _ (heap_lt' HG.out)).trans HG.out), (HBW.out.trans (h2.mono HBW.out.size)).grown hgr (Nat.le_trans HBW.out.size h2.size) (fun k hk => by have := hvlt k hk; omega)⟩)
          case oF_10 =>
            intro LX V aX wX K hl hp hcl hf hJ hK
            have t5 : aX.tmps[5]? = some (.pointer (some ⟨w.heap.size, 0, none⟩)) := hf.old (by kernel_rfl) rfl
            rw [if_pos (by rfl)]
            go_simp
            exact hK _ _ (hJ.val 10 _ (by kernel_rfl) rfl (fun _ h => h))
          case oF_11 =>
            intro LX V aX wX K hl hp hcl hf hJ hK
            have t43 := hf.in (i := 10) (d := 43) (by kernel_rfl) (hp 10 (by kernel_rfl)) (hJ.vals 10 _ rfl (hp 10 (by kernel_rfl)))
            have t42 := hf.in (i := 9) (d := 42) (by kernel_rfl) (hp 9 (by kernel_rfl)) rfl
            rw [if_pos (by rfl)]
            obtain ⟨vs, hlen, hv, hS, hn⟩ := hJ.next (by kernel_rfl) 4 (by kernel_rfl) hl (.inr (hp 9 (by kernel_rfl))) rfl
            match vs, hlen, hv, hS, hn with
            | [a0, a1, a2, a3], _, hv, hS, hn =>
              have e0 : V 6 = a0 := hv 0 (by decide)
              have e1 : V 7 = a1 := hv 1 (by decide)
              have e2 : V 8 = a2 := hv 2 (by decide)
              have e3 : V 9 = a3 := hv 3 (by decide)
              obtain ⟨h1, h2, h3⟩ := hS
              obtain ⟨au, cu, hvu, _⟩ := h1.rings
              have k0 : wX.cell? ⟨w.heap.size, 0, none⟩ = some vr := cell_of_row _ _ _ _ _ _ h2
              have f0 : wX.frozen? ⟨w.heap.size, 0, none⟩ = false := frozen_of_row _ _ _ _ _ h2
              generalize (R ++ [P ++ [pt]]).length = M at hvu
              rw [e3, hvu] at t42
              go_simp
              refine hK undef _ (hn undef _ ⟨⟨a3, by rw [hvu]; exact heap_setCell_same _ _ 0 _ _ _ h2, ?_⟩, h3.setCell (p := ⟨w.heap.size, 0, none⟩) (Nat.le_refl _) _⟩)
              exact h1.setCell h2 (by decide) (by decide)
        intro V wZ hJ
        obtain ⟨vs, hlen, hv, hS⟩ := hJ.all (by kernel_rfl)
        match vs, hlen, hv, hS with
        | [a0, a1, a2, a3, a4], _, hv, hS =>
          have HZ := Lib.hid hS
          simp only [puts, Act.put, List.setIfInBounds_toArray, List.set_cons_zero, List.set_cons_succ]
          clear hJ hv hS
          go_wp2_with fail
          go_roundw
          case rel => exact ⟨k + 1, by omega, by go_num, Lib.hid (by rw [HSU.out]; exact HZ.out.1), Lib.hid HZ.out.2⟩
          case measure => simp [intOf]; omega
      | true =>
        obtain ⟨P, hP⟩ : ∃ P, P = ring3 k ++ upperP k 16 := ⟨_, rfl⟩
        have hringM : ringM true k = P ++ [pt] := by rw [hP, HPT.out]; unfold ringM; simp
        rw [hringM] at HSU
        have HLP : Hid (P.length + 1 ≤ 1000000000) := Lib.hid (by rw [hP]; simp [ring3, upperP_len])
        have HPE := Lib.hid hP
        clear hP hringM
        go_wp2_with fail
        refine (HUP.out _ (by omega)).mono ?_
        rintro e w2 ⟨v2, rfl, ho2, hb2⟩
        obtain ⟨au, cu, hvu, hpu⟩ := ho2.pts
        rw [upperP_len] at hvu hpu
        subst hvu
        have hb3 : Below wr.heap.size wr w2 := HBA.out.trans (hb2.mono HBA.out.size)
        have H2 := Lib.hid (And.intro hpu (And.intro (HL3.out.later hb2) hb3))
        have HL19 : Hid ((ring3 k).length + 16 ≤ 1000000000) := Lib.hid (by simp [ring3])
        clear ho2 hb2 hpu hb3
        go_wp2_with (
          at_builtin
          refine wpList_append_pts rfl _ _ rfl wr.heap.size _ (ring3 k) rfl H2.out.2.1 _ _ _ (upperP k 16) rfl H2.out.1 HL19.out H2.out.2.2.size ?_
          intro v6 wi ho6 hg6
          have HOWN : Hid (OwnP wi wr.heap.size v6 P) := Lib.hid (by rw [HPE.out]; exact ho6)
          have HBC := Lib.hid (H2.out.2.2.grown hg6 H2.out.2.2.size (fun k hk => (H2.out.2.1.lt k hk).1))
          clear ho6 hg6)
        refine wp_region_J (s := [(33, 0), (34, 1), (35, 2), (36, 3), (37, 4), (38, 5), (39, 6), (40, 7), (41, 8), (42, 9), (43, 10)]) (by kernel_rfl) (ChainJ (fun iX => match iX with | 0 => some (.pointer (some ⟨w.heap.size, 0, none⟩)) | 1 => some (vr) | 2 => some (v6) | 3 => some (.int .i64 (k : Int)) | 4 => some (.int .i64 (50 * (k : Int))) | 5 => some (.agg #[.int .i64 (50 * (k : Int)), .int .i64 9]) | 10 => some (.pointer (some ⟨w.heap.size, 0, none⟩)) | _ => none) [6, 7, 8, 9, 11] (ManyS wr (v6) vr P pt R w)) (by kernel_rfl) (by kernel_rfl) (by kernel_rfl) (by kernel_rfl) (fun _ => undef) ?startT ?stepT ?doneT
        case startT => exact ChainJ.start ⟨HOWN.out, HBC.out.drew⟩
        case stepT =>
          refine ⟨?oT_0, ?oT_1, ?oT_2, ?oT_3, ?oT_4, ?oT_5, ?oT_6, ?oT_7, ?oT_8, ?oT_9, ?oT_10, ?oT_11, trivial⟩
          case oT_0 =>
            intro LX V aX wX K hl hp hcl hf hJ hK
            have t5 : aX.tmps[5]? = some (.pointer (some ⟨w.heap.size, 0, none⟩)) := hf.old (by kernel_rfl) rfl
            rw [if_pos (by rfl)]
            go_simp
            exact hK _ _ (hJ.val 0 _ (by kernel_rfl) rfl (fun _ h => h))
          case oT_1 =>
            intro LX V aX wX K hl hp hcl hf hJ hK
            have t33 := hf.in (i := 0) (d := 33) (by kernel_rfl) (hp 0 (by kernel_rfl)) (hJ.vals 0 _ rfl (hp 0 (by kernel_rfl)))
            rw [if_pos (by rfl)]
            obtain ⟨vs, hlen, hS⟩ := hJ.upto 3 (by decide) (hcl.no 9 (by kernel_rfl) hl)
            have hbX : Below wr.heap.size wr wX := by
              match vs, hlen, hS with
              | [], _, hS => exact hS.2
              | [_], _, hS => exact hS.2.2
              | [_, _], _, hS => exact hS.2
              | [_, _, _], _, hS => exact hS.2.2
              | _ :: _ :: _ :: _ :: _, h, _ => exact absurd h (by simp)
            have c0 := HCELL.out wX hbX
            go_simp
            exact hK _ _ (hJ.val 1 _ (by kernel_rfl) rfl (fun _ h => h))
          case oT_2 =>
            intro LX V aX wX K hl hp hcl hf hJ hK
            have t7 : aX.tmps[7]? = some (v6) := hf.old (by kernel_rfl) rfl
            rw [if_pos (by rfl)]
            go_simp
            exact hK _ _ (hJ.val 2 _ (by kernel_rfl) rfl (fun _ h => h))
          case oT_3 =>
            intro LX V aX wX K hl hp hcl hf hJ hK
            have t6 : aX.tmps[6]? = some (.int .i64 (k : Int)) := hf.old (by kernel_rfl) rfl
            rw [if_pos (by rfl)]
            go_simp
            exact hK _ _ (hJ.val 3 _ (by kernel_rfl) rfl (fun _ h => h))
          case oT_4 =>
            intro LX V aX wX K hl hp hcl hf hJ hK
            have t36 := hf.in (i := 3) (d := 36) (by kernel_rfl) (hp 3 (by kernel_rfl)) (hJ.vals 3 _ rfl (hp 3 (by kernel_rfl)))
            rw [if_pos (by rfl)]
            go_simp
            exact hK _ _ (hJ.val 4 _ (by kernel_rfl) rfl (fun _ h => h))
          case oT_5 =>
            intro LX V aX wX K hl hp hcl hf hJ hK
            have t37 := hf.in (i := 4) (d := 37) (by kernel_rfl) (hp 4 (by kernel_rfl)) (hJ.vals 4 _ rfl (hp 4 (by kernel_rfl)))
            rw [if_pos (by rfl)]
            go_simp
            exact hK _ _ (hJ.val 5 _ (by kernel_rfl) rfl (fun _ h => h))
          case oT_6 =>
            intro LX V aX wX K hl hp hcl hf hJ hK
            have t38 := hf.in (i := 5) (d := 38) (by kernel_rfl) (hp 5 (by kernel_rfl)) (hJ.vals 5 _ rfl (hp 5 (by kernel_rfl)))
            rw [if_pos (by rfl)]
            obtain ⟨vs, hlen, hv, hS, hn⟩ := hJ.next (by kernel_rfl) 0 (by kernel_rfl) hl (.inl rfl) rfl
            match vs, hlen, hv, hS, hn with
            | [], _, hv, hS, hn =>
              go_simp
              exact hK _ _ (hn _ _ ⟨hS.1.later ((Below.refl _ _).alloc (Nat.le_refl _) _), ⟨_, rfl, pts_litP wX pt HPXY.out.1 HPXY.out.2⟩, hS.2.alloc hS.2.size _⟩)
          case oT_7 =>
            intro LX V aX wX K hl hp hcl hf hJ hK
            have t35 := hf.in (i := 2) (d := 35) (by kernel_rfl) (hp 2 (by kernel_rfl)) (hJ.vals 2 _ rfl (hp 2 (by kernel_rfl)))
            have t39 := hf.in (i := 6) (d := 39) (by kernel_rfl) (hp 6 (by kernel_rfl)) rfl
            rw [if_pos (by rfl)]
            obtain ⟨vs, hlen, hv, hS, hn⟩ := hJ.next (by kernel_rfl) 1 (by kernel_rfl) hl (.inr (hp 6 (by kernel_rfl))) rfl
            match vs, hlen, hv, hS, hn with
            | [a0], _, hv, hS, hn =>
              have e0 : V 6 = a0 := hv 0 (by decide)
              obtain ⟨h1, ⟨g, hg, hpt⟩, h2⟩ := hS
              rw [e0, hg] at t39
              refine opwp_append_ptsF _ _ rfl wr.heap.size _ P (eval_tmp t35) h1 _ _ _ [pt] (eval_tmp t39) hpt HLP.out h2.size ?_
              intro v' w' hown2 hgr hfr
              exact hK _ _ (hn _ _ ⟨hown2, h2.grown hgr h2.size (fun k hk => (h1.lt k hk).1)⟩)
          case oT_8 =>
            intro LX V aX wX K hl hp hcl hf hJ hK
            have t40 := hf.in (i := 7) (d := 40) (by kernel_rfl) (hp 7 (by kernel_rfl)) rfl
            rw [if_pos (by rfl)]
            obtain ⟨vs, hlen, hv, hS, hn⟩ := hJ.next (by kernel_rfl) 2 (by kernel_rfl) hl (.inr (hp 7 (by kernel_rfl))) rfl
            match vs, hlen, hv, hS, hn with
            | [a0, a1], _, hv, hS, hn =>
              have e0 : V 6 = a0 := hv 0 (by decide)
              have e1 : V 7 = a1 := hv 1 (by decide)
              obtain ⟨ao9, c9, hv9, _⟩ := OwnP.pts hS.1
              have hv9b := hv9
              generalize (P ++ [pt]).length = M at hv9
              rw [e1, hv9] at t40
              go_simp
              exact hK _ _ (hn _ _ ⟨hS.1.later ((Below.refl _ _).alloc (Nat.le_refl _) _), ⟨_, rfl, by rw [hv9]; exact alloc_new _ _⟩, hS.2.alloc hS.2.size _⟩)
          case oT_9 =>
            intro LX V aX wX K hl hp hcl hf hJ hK
            have t34 := hf.in (i := 1) (d := 34) (by kernel_rfl) (hp 1 (by kernel_rfl)) (hJ.vals 1 _ rfl (hp 1 (by kernel_rfl)))
            have t41 := hf.in (i := 8) (d := 41) (by kernel_rfl) (hp 8 (by kernel_rfl)) rfl
            rw [if_pos (by rfl)]
            obtain ⟨vs, hlen, hv, hS, hn⟩ := hJ.next (by kernel_rfl) 3 (by kernel_rfl) hl (.inr (hp 8 (by kernel_rfl))) rfl
            match vs, hlen, hv, hS, hn with
            | [a0, a1, a2], _, hv, hS, hn =>
              have e0 : V 6 = a0 := hv 0 (by decide)
              have e1 : V 7 = a1 := hv 1 (by decide)
              have e2 : V 8 = a2 := hv 2 (by decide)
              obtain ⟨h1, ⟨g, hg, hh⟩, h2⟩ := hS
              obtain ⟨ao9, c9, hv9, _⟩ := OwnP.pts h1
              rw [hv9] at hh h1
              rw [e2, hg] at t41
              refine opwp_append_rings _ _ rfl (w.heap.size + 1) vr R (eval_tmp t34) (HOR.out.later h2) g (eval_tmp t41) ao9 c9 (P ++ [pt]) (h1.base (Nat.le_trans HWI.out (Nat.le_refl _))) hh HRL.out (Nat.le_trans HWI.out h2.size) ?_
              intro v' w' hown2 hgr
              have hvlt : ∀ k, vr.ownBlock = some k → w.heap.size + 1 ≤ k := fun k hk => (HOR.out.lt k hk).1
              exact hK _ _ (hn _ _ ⟨hown2, (hgr.block _ (Nat.lt_of_lt_of_le (heap_lt' HG.out) h2.size) (fun e => by have := hvlt _ e.symm; omega)).trans ((h2.block _ (heap_lt' HG.out)).trans HG.out), (HBW.out.trans (h2.mono HBW.out.size)).grown hgr (Nat.le_trans HBW.out.size h2.size) (fun k hk => by have := hvlt k hk; omega)⟩)
          case oT_10 =>
            intro LX V aX wX K hl hp hcl hf hJ hK
            have t5 : aX.tmps[5]? = some (.pointer (some ⟨w.heap.size, 0, none⟩)) := hf.old (by kernel_rfl) rfl
            rw [if_pos (by rfl)]
            go_simp
            exact hK _ _ (hJ.val 10 _ (by kernel_rfl) rfl (fun _ h => h))
          case oT_11 =>
            intro LX V aX wX K hl hp hcl hf hJ hK
            have t43 := hf.in (i := 10) (d := 43) (by kernel_rfl) (hp 10 (by kernel_rfl)) (hJ.vals 10 _ rfl (hp 10 (by kernel_rfl)))
            have t42 := hf.in (i := 9) (d := 42) (by kernel_rfl) (hp 9 (by kernel_rfl)) rfl
            rw [if_pos (by rfl)]
            obtain ⟨vs, hlen, hv, hS, hn⟩ := hJ.next (by kernel_rfl) 4 (by kernel_rfl) hl (.inr (hp 9 (by kernel_rfl))) rfl
            match vs, hlen, hv, hS, hn with
            | [a0, a1, a2, a3], _, hv, hS, hn =>
              have e0 : V 6 = a0 := hv 0 (by decide)
              have e1 : V 7 = a1 := hv 1 (by decide)
              have e2 : V 8 = a2 := hv 2 (by decide)
              have e3 : V 9 = a3 := hv 3 (by decide)
              obtain ⟨h1, h2, h3⟩ := hS
              obtain ⟨au, cu, hvu, _⟩ := h1.rings
              have k0 : wX.cell? ⟨w.heap.size, 0, none⟩ = some vr := cell_of_row _ _ _ _ _ _ h2
              have f0 : wX.frozen? ⟨w.heap.size, 0, none⟩ = false := frozen_of_row _ _ _ _ _ h2
              generalize (R ++ [P ++ [pt]]).length = M at hvu
              rw [e3, hvu] at t42
              go_simp
              refine hK undef _ (hn undef _ ⟨⟨a3, by rw [hvu]; exact heap_setCell_same _ _ 0 _ _ _ h2, ?_⟩, h3.setCell (p := ⟨w.heap.size, 0, none⟩) (Nat.le_refl _) _⟩)
              exact h1.setCell h2 (by decide) (by decide)
        intro V wZ hJ
        obtain ⟨vs, hlen, hv, hS⟩ := hJ.all (by kernel_rfl)
        match vs, hlen, hv, hS with
        | [a0, a1, a2, a3, a4], _, hv, hS =>
          have HZ := Lib.hid hS
          simp only [puts, Act.put, List.setIfInBounds_toArray, List.set_cons_zero, List.set_cons_succ]
          clear hJ hv hS
          go_wp2_with fail
          go_roundw
          case rel => exact ⟨k + 1, by omega, by go_num, Lib.hid (by rw [HSU.out]; exact HZ.out.1), Lib.hid HZ.out.2⟩
          case measure => simp [intOf]; omega
    · have hkn : N = k := by omega
      subst hkn
      obtain ⟨u, hu, hown⟩ := hrg.out
      obtain ⟨ag, cg, hv, hr⟩ := hown.rings
      rw [ringsM_len] at hv hr
      subst hv
      have HBW := hbl
      have HCELLS : Hid (∀ wX, Below wr.heap.size wr wX → wX.cell? ⟨w.heap.size, 0, none⟩ = some (.slice ag N cg)) := Lib.hid (fun wX hX => cell_of_row _ _ _ _ _ _ ((hX.block _ (heap_lt' hu)).trans hu))
      have hsz : sumLen (ringsM long N) ≤ 1000000000000 := by have := ringsM_sum long N; omega
      obtain ⟨fg, hfg⟩ : ∃ f, f = regionCheckP (ringsM long N) := ⟨_, rfl⟩
      have hCI := fun wX (hX : Below wr.heap.size wr wX) => Check_region ag N cg (ringsM long N) wX (hr.later hX (Nat.le_refl _)) hsz
      have hCG := fun wX (hX : Below wr.heap.size wr wX) => rCheck_region ag N cg (ringsM long N) wX (hr.later hX (Nat.le_refl _)) hsz
      have HAW : Hid (∀ wX, Below wr.heap.size wr wX → _) := Lib.hid (fun wX _ => HAW0.out wX)
      rw [← hfg] at hCI hCG
      obtain ⟨f, fa⟩ := fg
      unfold faultV at hCI hCG
      dsimp only at hCI hCG
      have HCI := Lib.hid hCI
      have HCG := Lib.hid hCG
      clear hu hown hr hsz hfg hCI hCG hrg
      go_wp2_with fail
      refine wp_region_J (s := [(44, 0), (45, 1), (46, 2), (47, 3), (48, 4), (49, 5), (50, 6), (51, 7), (4, 8)]) (by kernel_rfl) (StdJ wr (fun iX => match iX with | 0 => some (.agg #[.slice ag N cg]) | 1 => some (.agg #[.int .i64 f, .int .i64 fa]) | 2 => some (.agg #[.slice ag N cg]) | 3 => some (.agg #[.int .i64 f, .int .i64 fa]) | 4 => some (.bool true) | 5 => some (.bool true) | 6 => some (.bool true) | 7 => some (.bool true) | 8 => some (.bool true) | _ => none) []) (by kernel_rfl) (by kernel_rfl) (by kernel_rfl) (by kernel_rfl) (fun _ => undef) ?start10 ?step10 ?done10
      case start10 => exact StdJ.start ((Below.refl _ _).drew)
      case step10 =>
        refine ⟨?o10_0, ?o10_1, ?o10_2, ?o10_3, ?o10_4, ?o10_5, ?o10_6, ?o10_7, ?o10_8, trivial⟩
        case o10_0 =>
          intro LX V aX wX K hl hp hcl hf hJ hK
          have t5 : aX.tmps[5]? = some (.pointer (some ⟨w.heap.size, 0, none⟩)) := hf.old (by kernel_rfl) rfl
          have c0 := HCELLS.out wX hJ.below
          rw [if_pos (by rfl)]
          go_simp
          exact hK _ _ (hJ.val (Below.refl _ _) 0 _ (by kernel_rfl) rfl)
        case o10_1 =>
          intro LX V aX wX K hl hp hcl hf hJ hK
          have t44 := hf.in (i := 0) (d := 44) (by kernel_rfl) (hp 0 (by kernel_rfl)) (hJ.vals 0 _ rfl (hp 0 (by kernel_rfl)))
          rw [if_pos (by rfl)]
          go_simp
          refine (HCI.out _ hJ.below).mono ?_
          rintro e wA ⟨rfl, hbA⟩
          exact hK _ _ (hJ.val (hbA) 1 _ (by kernel_rfl) rfl)
        case o10_2 =>
          intro LX V aX wX K hl hp hcl hf hJ hK
          have t5 : aX.tmps[5]? = some (.pointer (some ⟨w.heap.size, 0, none⟩)) := hf.old (by kernel_rfl) rfl
          have c0 := HCELLS.out wX hJ.below
          rw [if_pos (by rfl)]
          go_simp
          exact hK _ _ (hJ.val (Below.refl _ _) 2 _ (by kernel_rfl) rfl)
        case o10_3 =>
          intro LX V aX wX K hl hp hcl hf hJ hK
          have t46 := hf.in (i := 2) (d := 46) (by kernel_rfl) (hp 2 (by kernel_rfl)) (hJ.vals 2 _ rfl (hp 2 (by kernel_rfl)))
          rw [if_pos (by rfl)]
          go_simp
          refine (HCG.out _ hJ.below).mono ?_
          rintro e wA ⟨rfl, hbA⟩
          exact hK _ _ (hJ.val (hbA) 3 _ (by kernel_rfl) rfl)
        case o10_4 =>
          intro LX V aX wX K hl hp hcl hf hJ hK
          have t45 := hf.in (i := 1) (d := 45) (by kernel_rfl) (hp 1 (by kernel_rfl)) (hJ.vals 1 _ rfl (hp 1 (by kernel_rfl)))
          have t47 := hf.in (i := 3) (d := 47) (by kernel_rfl) (hp 3 (by kernel_rfl)) (hJ.vals 3 _ rfl (hp 3 (by kernel_rfl)))
          have he : ∀ w, _ := run_eqF f fa f fa
          rw [decide_eq_true rfl, decide_eq_true rfl] at he
          rw [if_pos (by rfl)]
          go_simp
          exact hK _ _ (hJ.val (Below.refl _ _) 4 _ (by kernel_rfl) rfl)
        case o10_5 =>
          intro LX V aX wX K hl hp hcl hf hJ hK
          have t48 := hf.in (i := 4) (d := 48) (by kernel_rfl) (hp 4 (by kernel_rfl)) (hJ.vals 4 _ rfl (hp 4 (by kernel_rfl)))
          rw [if_pos (by rfl)]
          go_simp
          exact hK _ _ (hJ.val (Below.refl _ _) 5 _ (by kernel_rfl) rfl)
        case o10_6 =>
          intro LX V aX wX K hl hp hcl hf hJ hK
          have t49 := hf.in (i := 5) (d := 49) (by kernel_rfl) (hp 5 (by kernel_rfl)) (hJ.vals 5 _ rfl (hp 5 (by kernel_rfl)))
          rw [if_pos (wanted_of rfl rfl t49)]
          go_simp
          refine (HAW.out _ hJ.below).mono ?_
          rintro e wA ⟨rfl, hbA⟩
          exact hK _ _ (hJ.val (hbA) 6 _ (by kernel_rfl) rfl)
        case o10_7 =>
          intro LX V aX wX K hl hp hcl hf hJ hK
          have t49 := hf.in (i := 5) (d := 49) (by kernel_rfl) (hp 5 (by kernel_rfl)) (hJ.vals 5 _ rfl (hp 5 (by kernel_rfl)))
          have t50 := hf.in (i := 6) (d := 50) (by kernel_rfl) (hp 6 (by kernel_rfl)) (hJ.vals 6 _ rfl (hp 6 (by kernel_rfl)))
          rw [if_pos (by rfl)]
          go_simp
          exact hK _ _ (hJ.val (Below.refl _ _) 7 _ (by kernel_rfl) rfl)
        case o10_8 =>
          intro LX V aX wX K hl hp hcl hf hJ hK
          have t51 := hf.in (i := 7) (d := 51) (by kernel_rfl) (hp 7 (by kernel_rfl)) (hJ.vals 7 _ rfl (hp 7 (by kernel_rfl)))
          rw [if_pos (by rfl)]
          go_simp
          exact hK _ _ (hJ.val (Below.refl _ _) 8 _ (by kernel_rfl) rfl)
      intro V wZ hJ
      have hvx := hJ.vals 8 _ rfl (by kernel_rfl)
      have HBZ := Lib.hid hJ.below
      simp only [puts, Act.put, List.setIfInBounds_toArray, List.set_cons_zero, List.set_cons_succ]
      rw [hvx]
      clear hJ hvx
      go_wp2_with fail
      go_ret
      exact ⟨rfl, HBW.out.trans (HBZ.out.mono HBW.out.size)⟩end Go.Proofs.Ytgijaaklhdcgeaa
