/- law 28: opened -/
import Derived.Test.YtdglaacjefcfdaaLOpen5
namespace Go.Proofs.Ytdglaacjefcfdaa
open Go.RowKit
set_option maxRecDepth 100000 in
theorem opened_new (base d mb : Nat) (w : World) (hbs : base ≤ w.heap.size) (hd : DiskNo w (-1) d mb) :
    Calls Try.prog 10 #[.pointer (some ⟨d, 0, none⟩), .int .i64 0] w
      fun e w' => ∃ l f, e = .returned (.tuple #[.pointer (some ⟨l, 0, none⟩), .slice none 0 0, .bool true]) ∧ w.heap.size ≤ l ∧ w.heap.size ≤ f ∧ LedRow w' l d 0 0 false ∧ DiskOwn w' (-1) d mb f base [] [] ∧ Moved d mb f base w w' := by
  have H := Lib.hid (Open_new base d mb w hbs hd)
  clear hd hbs
  unfold logB at H
  go_enter Try.func10, Try.ntmps10
  go_wp2_with fail
  refine H.out.mono ?_
  rintro e w2 ⟨l, f, rfl, hl, hf, hlr, hdo, hmv⟩
  have HL := Lib.hid (Len_any l d 0 0 false w2 hlr)
  have HX := Lib.hid (And.intro hl (And.intro hf (And.intro hlr (And.intro hdo hmv))))
  clear hl hf hlr hdo hmv
  go_wp2_with fail
  refine HL.out.mono ?_
  rintro e w3 ⟨rfl, rfl⟩
  go_wp2_with fail
  go_ret3
  exact ⟨l, f, rfl, HX.out⟩
set_option maxRecDepth 100000 in
theorem opened_log (base d mb f : Nat) (S : List UInt8) (D : List Deed) (bs : List UInt8) (recs : List (List UInt8)) (sz n : Nat) (w : World) (hbs : base ≤ w.heap.size) (hd : DiskOwn w (-1) d mb f base S D) (hbsx : bs = allB S D) (hscan : Fr.scanF bs = (recs, sz, 0)) (hn : recs.length = n) :
    Calls Try.prog 10 #[.pointer (some ⟨d, 0, none⟩), .int .i64 (n : Int)] w
      fun e w' => ∃ l v, e = .returned (.tuple #[.pointer (some ⟨l, 0, none⟩), v, .bool true]) ∧ w.heap.size ≤ l ∧ LedRow w' l d (n : Nat) (sz : Nat) false ∧ DiskOwn w' (-1) d mb f base bs [] ∧ Lists w' w.heap.size v recs ∧ Moved d mb f base w w' := by
  have H := Lib.hid (Open_log base d mb f S D bs recs sz w hbs hd hbsx hscan)
  have hn0 : ¬ ((n : Int) < 0) := by omega
  rw [hn] at H
  have HN := Lib.hid hn
  clear hd hbs hbsx hscan hn
  unfold logB at H
  go_enter Try.func10, Try.ntmps10
  go_wp2_with fail
  refine H.out.mono ?_
  rintro e w2 ⟨l, v, rfl, hl, hlr, hdo, hls, hmv⟩
  have HL := Lib.hid (Len_any l d n sz false w2 hlr)
  obtain ⟨la, lc, hv, _⟩ := hls.reads
  rw [HN.out] at hv
  subst hv
  have HX := Lib.hid (And.intro hl (And.intro hlr (And.intro hdo (And.intro hls hmv))))
  clear hl hlr hdo hmv hls
  go_wp2_with fail
  refine HL.out.mono ?_
  rintro e w3 ⟨rfl, rfl⟩
  go_wp2_with fail
  go_ret3
  exact ⟨l, _, rfl, HX.out⟩
end Go.Proofs.Ytdglaacjefcfdaa
