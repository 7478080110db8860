/- the reference's runes of a text, and where each begins -/
import Derived.Test.YtnjckpgacbibhaaId
import Derived.Test.Ytnjckpgacbibhaamem
namespace Go.Proofs.Ytnjckpgacbibhaa
set_option linter.unusedVariables false
set_option linter.unusedSimpArgs false
open Go.RowKit Go.Cas

theorem inf_int : (Try.prog.info? 3).map (fun i => (i.zero, i.size, i.bytes)) = some (some (.int .i64 0), 1, 8) := by kernel_rfl

def vInts (l : List Int) : List Value := l.map (Value.int .i64)
theorem vInts_snoc (l : List Int) (x : Int) : vInts l ++ [.int .i64 x] = vInts (l ++ [x]) := by simp [vInts]
theorem vInts_len (l : List Int) : (vInts l).length = l.length := by simp [vInts]
theorem vInts_get (l : List Int) (k : Nat) (h : k < l.length) : (vInts l)[k]? = some (.int .i64 (l[k]'h)) := by simp [vInts, h]
theorem one1 (x : Int) : ∀ u ∈ [Value.int .i64 x], u.oneCell' = true := fun u hu => by simp at hu; subst hu; rfl
def rOf (l : List (Int × Nat)) : List Int := l.map (·.1)
def aOf (l : List (Int × Nat)) : List Int := l.map fun p => (p.2 : Int)
def RunesPost (s : ByteArray) (w : World) (e : Ending) (w' : World) : Prop :=
  ∃ u v, e = .returned (.tuple #[u, v]) ∧ w'.ownsRow w.heap.size 3 1 u (runes s).length (vInts (rOf (runes s))) ∧ w'.ownsRow w.heap.size 3 1 v (runes s).length (vInts (aOf (runes s))) ∧ Sep u v ∧ Below w.heap.size w w'

set_option maxHeartbeats 1000000 in
theorem c_Runes (s : ByteArray) (w : World) (hs : s.size ≤ 2000000) : Calls Try.prog 23 #[.string s] w (RunesPost s w) := by
  have hs' : s.size ≤ 9223372036854775000 := by omega
  have HS := Lib.hid hs'
  clear hs'
  go_enter Try.func23, Try.ntmps23
  go_wp2_with fail
  go_loopw [4, 5, 6] (fun o t i wr => ∃ (pos : Nat) (rs : List (Int × Nat)), i = .int .i64 pos ∧ pos ≤ s.size + 4 ∧ rs.length ≤ pos ∧ wr.ownsRow w.heap.size 3 1 o rs.length (vInts (rOf rs)) ∧ wr.ownsRow w.heap.size 3 1 t rs.length (vInts (aOf rs)) ∧ Sep o t ∧ Below w.heap.size w wr ∧ Hid (rs ++ runesFrom s pos = runes s)) (fun _ _ i _ => s.size + 4 - (intOf i).toNat)
  case atStart => exact ⟨0, [], rfl, by omega, by simp, World.ownsRow_nil _ _ _ _, World.ownsRow_nil _ _ _ _, Sep.none_l _, Below.refl _ _, by simp [runes, Hid]⟩
  case round =>
    obtain ⟨pos, rs, rfl, hp, hk, ho, ht, hsep, hb, H⟩ := hrel
    have hN := dN_pos s pos
    by_cases hlt : pos < s.size
    · have hbz := hb.size
      go_wp2_with (first
        | (go_at_call 61; refine (c_runeAt _ _ _ HS.out hlt).mono ?_; rintro e w' ⟨rfl, rfl⟩)
        | (at_builtin; refine wp_push rfl (.tmp 19) (.tmp 21) _ rfl w.heap.size 3 Try.underlying28 inf_int rfl (by decide) _ u4 rs.length (vInts (rOf rs)) [.int .i64 (dR s pos)] rfl rfl rfl ho rfl (one1 _) (by omega) (by omega) hbz ?_; intro v1 w1 hp1; have hz1 := hp1.size_; have ht1 := hp1.other ht hsep)
        | (at_builtin; refine wp_push rfl (.tmp 23) (.tmp 25) _ rfl w.heap.size 3 Try.underlying28 inf_int rfl (by decide) _ u5 rs.length (vInts (aOf rs)) [.int .i64 pos] rfl rfl rfl ht1 rfl (one1 _) (by omega) (by omega) (by omega) ?_; intro v2 w2 hp2))
      have hs1 := hp1.sep ht hsep
      have hb1 := hp1.below hb (Nat.le_refl _) hbz
      have hb2 := hp2.below hb1 (Nat.le_refl _) (by omega)
      have ho2 := hp2.other hp1.own hs1.symm
      have hs2 := hp2.sep hp1.own hs1.symm
      have ht2 := hp2.own
      go_roundw
      case rel =>
        refine ⟨pos + dN s pos, rs ++ [(dR s pos, pos)], by go_num, by omega, by simp; omega, ?_, ?_, hs2.symm, hb2, ?_⟩
        · simpa [vInts, rOf] using ho2
        · simpa [vInts, aOf] using ht2
        · have := H.out; rw [runesFrom_in s pos hlt] at this; simpa [Hid] using this
      case measure => simp [intOf]; omega
    · go_wp2_with fail
      go_ret2
      have e : rs = runes s := by have := H.out; rw [runesFrom_out s pos hlt] at this; simpa using this
      subst e
      exact ⟨_, _, rfl, ho, ht, hsep, hb⟩
end Go.Proofs.Ytnjckpgacbibhaa
