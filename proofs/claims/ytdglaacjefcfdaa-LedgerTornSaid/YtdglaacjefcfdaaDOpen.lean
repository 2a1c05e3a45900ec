/- disk: open of "log"; Clone of bytes -/
import Derived.Test.YtdglaacjefcfdaaDMap
namespace Go.Proofs.Ytdglaacjefcfdaa
open Go.RowKit
set_option maxRecDepth 100000 in
theorem open_nil (nm : Value) (w : World) : Calls Try.prog 29 #[.pointer none, nm] w fun e w' => e = .returned (.tuple #[.pointer none, .int .i64 1]) ∧ w = w' := by
  go_enter Try.func29, Try.ntmps29
  go_wp2_with fail
  refine (down_nil _).mono ?_
  rintro e w' ⟨rfl, rfl⟩
  go_wp2_with fail
  go_ret2
  exact ⟨rfl, rfl⟩
set_option maxRecDepth 100000 in
theorem open_none (d mb c : Nat) (st fu : Int) (w : World) (h : DiskRow w d mb st fu false) (hm : w.heap[mb]? = some (.map #[] c)) :
    Calls Try.prog 29 #[.pointer (some ⟨d, 0, none⟩), .string logB] w fun e w' => e = .returned (.tuple #[.pointer none, .int .i64 6]) ∧ w = w' := by
  obtain ⟨h0, h1, h2, h3⟩ := h.cells
  have hl := look_none w mb c hm
  have H := Lib.hid h
  generalize logB = nm at hl ⊢
  clear h h1 h2 h3 hm
  go_enter Try.func29, Try.ntmps29
  go_wp2_with fail
  refine (down_any _ _ _ _ _ H.out).mono ?_
  rintro e w' ⟨rfl, rfl⟩
  go_wp2_with fail
  go_ret2
  exact ⟨rfl, rfl⟩
set_option maxRecDepth 100000 in
theorem open_log (d mb c b f : Nat) (st fu : Int) (w : World) (h : DiskRow w d mb st fu false) (hm : w.heap[mb]? = some (.map #[{ key := .string logB, val := .pointer (some ⟨f, 0, none⟩), born := b }] c)) :
    Calls Try.prog 29 #[.pointer (some ⟨d, 0, none⟩), .string logB] w fun e w' => e = .returned (.tuple #[.pointer (some ⟨f, 0, none⟩), .int .i64 0]) ∧ w = w' := by
  obtain ⟨h0, h1, h2, h3⟩ := h.cells
  have hl := look_log w mb c b _ hm
  have H := Lib.hid h
  generalize logB = nm at hl ⊢
  clear h h1 h2 h3 hm
  go_enter Try.func29, Try.ntmps29
  go_wp2_with fail
  refine (down_any _ _ _ _ _ H.out).mono ?_
  rintro e w' ⟨rfl, rfl⟩
  go_wp2_with fail
  go_ret2
  exact ⟨rfl, rfl⟩
theorem OwnB.none_new (w : World) (base : Nat) (hb : base ≤ w.heap.size) : OwnB (w.alloc (.cells #[] 5)) base (.slice (some ⟨w.heap.size, 0, none⟩) 0 0) [] := by
  refine ⟨World.ownsRow_made w #[] 0 hb (by unfold maxLen; omega) (by simp), fun g c t f hg hc u hu => ?_⟩
  simp only [Value.ownBlock, Option.some.injEq] at hg
  subst hg
  rw [heap_alloc_new] at hc
  cases hc
  simp at hu
set_option maxRecDepth 100000 in
theorem CloneB_any (ao : Option Addr) (n cap : Nat) (l : List UInt8) (w : World) (hs : IsBytes w ao n cap l) (hn : n ≤ 4294967296) :
    Calls Try.prog 35 #[.slice ao n cap] w fun e w' => ∃ v, e = .returned v ∧ OwnB w' w.heap.size v l ∧ Below w.heap.size w w' := by
  cases ao with
  | none =>
    obtain ⟨rfl, rfl⟩ := hs.2.2.2.2 rfl
    obtain rfl : l = [] := List.eq_nil_of_length_eq_zero hs.1
    have hql := fun w' => Lib.run_eql_slice_nil (P := Try.prog) w' 24 5 none 0 0 0 0 Try.underlying24
    clear hs hn
    go_enter Try.func35, Try.ntmps35
    go_wp2
    go_ret
    exact ⟨_, rfl, OwnB.nil _ _, Below.refl _ _⟩
  | some ad =>
    have HS := Lib.hid hs
    have hql := fun w' => Lib.run_eql_slice_nil (P := Try.prog) w' 24 5 (some ad) n cap 0 0 Try.underlying24
    have HL : Hid (l.length = n) := Lib.hid hs.1
    clear hs
    go_enter Try.func35, Try.ntmps35
    go_wp2_with (at_builtin; refine wpList_append_bytes rfl _ _ rfl w.heap.size (.slice (some ⟨w.heap.size, 0, none⟩) 0 0) [] rfl (OwnB.none_new w _ (Nat.le_refl _)) (some ad) n cap l rfl (HS.out.later ((Below.refl _ _).alloc (Nat.le_refl _) _)) (by simp; omega) (by simp) ?_; intro v1 w1 hown1 hg1)
    go_ret
    exact ⟨_, rfl, hown1, ((Below.refl _ _).alloc (Nat.le_refl _) _).grown hg1 (by simp) (fun k hk => ((OwnB.none_new w _ (Nat.le_refl _)).1.lt k hk).1)⟩
end Go.Proofs.Ytdglaacjefcfdaa
