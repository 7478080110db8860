/- the program's breaks of a text -/
import Derived.Test.YtnjckpgacbibhaaIf
import Derived.Test.YtnjckpgacbibhaaBreaksP
namespace Go.Proofs.Ytnjckpgacbibhaa
set_option linter.unusedVariables false
set_option linter.unusedSimpArgs false
open Go.RowKit Go.Cas

/-- what holds of memory in a round -/
structure BR (s : ByteArray) (w wr : World) (o : Value) (xs : List Int) (pos : Nat) (a c : Int) : Prop where
  own : wr.ownsRow (w.heap.size + 2) 3 1 o xs.length (vInts xs)
  bk : Bk wr w.heap.size 107 #[.int .i32 a, .int .i32 c]
  it : wr.heap[w.heap.size + 1]? = some (.stringIter s pos)
  bel : Below w.heap.size w wr
section
variable {s : ByteArray} {w wr : World} {o : Value} {xs : List Int} {pos : Nat} {a c : Int}
theorem BR.next (h : BR s w wr o xs pos a c) (p : Nat) : BR s w (wr.iterAt (w.heap.size + 1) s p) o xs p a c :=
  ⟨ownsRow_iterAt h.own (by omega) _ _, h.bk.iterAt (by omega) _ _, Lib.iterAt_heap _ _ _ _ _ h.it, Lib.below_iterAt h.bel (by omega) _ _⟩
theorem BR.push {v' : Value} {w' : World} {x : Int} (h : BR s w wr o xs pos a c) (hp : Pushed wr (w.heap.size + 2) 3 1 o xs.length (vInts xs) [.int .i64 x] v' w') : BR s w w' v' (xs ++ [x]) pos a c := by
  refine ⟨?_, hp.bk h.bk (by omega), hp.heap h.it (by omega), hp.below h.bel (by omega) h.bel.size⟩
  have := hp.own
  rw [vInts_snoc] at this
  simpa using this
theorem BR.seen (h : BR s w wr o xs pos a c) (b d : Int) : BR s w ((wr.setCell ⟨w.heap.size, 0, none⟩ (.int .i32 b)).setCell ⟨w.heap.size, 1, none⟩ (.int .i32 d)) o xs pos b d := by
  refine ⟨ownsRow_setCell_below (ownsRow_setCell_below h.own (by simp) _) (by simp) _, (h.bk.set_ 0 _).set_ 1 _, ?_, bl_set (bl_set h.bel _ _ (Nat.le_refl _) _) _ _ (Nat.le_refl _) _⟩
  rw [Below.heap_setCell _ _ _ _ (by simp), Below.heap_setCell _ _ _ _ (by simp)]
  exact h.it
end

set_option maxRecDepth 100000 in
set_option maxHeartbeats 4000000 in
theorem c_Breaks (s : ByteArray) (w : World) (hs : s.size ≤ 100000) : Calls Try.prog 30 #[.string s] w fun e w' => ∃ u, e = .returned u ∧ w'.ownsRow (w.heap.size + 2) 3 1 u (brks 0 0 0 (runes s)).length (vInts (brks 0 0 0 (runes s))) ∧ Below w.heap.size w w' := by
  go_enter Try.func30, Try.ntmps30
  go_wp2_with fail
  go_loopw [3, 5] (fun o i wr => ∃ (pos n : Nat) (a c : Int) (xs : List Int), i = .int .i64 n ∧ pos ≤ s.size + 4 ∧ n ≤ pos ∧ xs.length ≤ n ∧ Hid (BR s w wr o xs pos a c) ∧ Hid (xs ++ brks n a c (runesFrom s pos) = brks 0 0 0 (runes s))) (fun _ _ wr => s.size + 4 - wr.iterPos (w.heap.size + 1))
  case atStart =>
    refine ⟨0, 0, 0, 0, [], rfl, by omega, by omega, by simp, ⟨World.ownsRow_nil _ _ _ _, ?_, ?_, ?_⟩, by simp [Hid, runes]⟩
    · exact (Bk.new _ _ _).alloc _
    · have := World.iter_heap (w.alloc (.cells #[.int .i32 0, .int .i32 0] 107)) s 0
      simpa using this
    · exact bl_alloc (bl_alloc (Below.refl _ _) _) _
  case round =>
    obtain ⟨pos, n, a, c, xs, rfl, hp, hnp, hxn, HR, H⟩ := hrel
    have hN := dN_pos s pos
    unfold dN at hN
    by_cases hlt : pos < s.size
    · have hit := HR.out.it
      have hnx := fun ty => Lib.run_next_any_at (P := Try.prog) wr (w.heap.size + 1) s pos ty hit hlt
      have hmu : wr.iterPos (w.heap.size + 1) = pos := iterPos_of hit
      have HM := Lib.hid hmu
      clear hit hmu
      have hR1 := HR.out.next (pos + (Utf8.decode s pos).2)
      have hbz : w.heap.size + 2 ≤ (wr.iterAt (w.heap.size + 1) s (pos + (Utf8.decode s pos).2)).heap.size := by
        rw [Lib.iterAt_size]
        have := (Array.getElem?_eq_some_iff.1 HR.out.it).1
        omega
      have hst : Hid (brks n a c (runesFrom s pos) = (if decide (0 < n) && mayB a (dR s pos) c (decide (1 < n)) then [(pos : Int)] else []) ++ brks (n + 1) (dR s pos) a (runesFrom s (pos + dN s pos))) := by rw [runesFrom_in s pos hlt]; rfl
      obtain ⟨W1, hW1⟩ : ∃ W1, W1 = wr.iterAt (w.heap.size + 1) s (pos + (Utf8.decode s pos).2) := ⟨_, rfl⟩
      rw [← hW1] at hnx hR1 hbz
      have HW1 := Lib.hid hW1
      clear hW1
      have k1 := hR1.bk
      have c1 := k1.cell; have f1 := k1.free; have l1 := k1.lt
      have HR1 := Lib.hid hR1
      clear hR1 k1
      go_wp2_with (first
        | (go_at_call 63; refine (c_glue _ _).mono ?_; rintro e w' ⟨rfl, rfl⟩) | (go_at_call 64; refine (c_hyphen _ _).mono ?_; rintro e w' ⟨rfl, rfl⟩) | (go_at_call 65; refine (c_letter _ _).mono ?_; rintro e w' ⟨rfl, rfl⟩) | (go_at_call 67; refine (c_opens _ _).mono ?_; rintro e w' ⟨rfl, rfl⟩) | (go_at_call 68; refine (c_closes _ _).mono ?_; rintro e w' ⟨rfl, rfl⟩) | (go_at_call 66; refine (c_Wide _ _).mono ?_; rintro e w' ⟨rfl, rfl⟩)
        | (at_builtin; refine wp_push rfl _ _ _ rfl (w.heap.size + 2) 3 Try.underlying28 inf_int rfl (by decide) W1 u3 xs.length (vInts xs) [.int .i64 pos] rfl rfl rfl HR1.out.own rfl (one1 _) (by omega) (by omega) hbz ?_; intro v1 w1 hp1; have k2 := (HR1.out.push hp1).bk; have c2 := k2.cell; have f2 := k2.free; have l2 := k2.lt; clear k2))
      all_goals
        go_roundw
        case rel =>
          first
          | refine ⟨pos + (Utf8.decode s pos).2, n + 1, _, _, xs ++ [(pos : Int)], by go_num, by omega, by omega, by simp; omega, (HR1.out.push hp1).seen _ _, ?_⟩
          | refine ⟨pos + (Utf8.decode s pos).2, n + 1, _, _, xs, by go_num, by omega, by omega, by omega, HR1.out.seen _ _, ?_⟩
          have h2 := H.out
          rw [hst.out] at h2
          try clear hp1 c2 f2 l2
          clear hnx HM HW1 HR HR1 hst H c1 f1 l1 hbz hN hs hp hnp hxn hlt
          have hw := hyp_wide a
          split at h2
          all_goals
            first
            | (simpa [Hid, dR, dN] using h2; done)
            | (have e32 : a = 32 := by assumption
               simpa [Hid, dR, dN, e32] using h2; done)
            | (exfalso; rename_i q; clear h2; simp_all [mayB, digB, dR] <;> omega)
            | (exfalso; rename_i q; clear h2; simp_all [mayB, digB, dR])
        case measure =>
          first
          | (rw [iterPos_of ((HR1.out.push hp1).seen _ _).it, HM.out]; omega)
          | (rw [iterPos_of (HR1.out.seen _ _).it, HM.out]; omega)
    · have hne := fun ty => Lib.run_next_end_at (P := Try.prog) wr (w.heap.size + 1) s pos ty HR.out.it hlt
      go_wp2_with fail
      go_ret
      have e : xs = brks 0 0 0 (runes s) := by have := H.out; rw [runesFrom_out s pos hlt] at this; simpa [brks] using this
      subst e
      exact ⟨_, rfl, HR.out.own, HR.out.bel⟩
end Go.Proofs.Ytnjckpgacbibhaa
