/- numbers: two sorted parts become one, in place; numbers: the library's stable sort at needs; numbers: SortStableFunc of a list that the call owns -/
import Derived.Test.YtimlmekgapdkiaaDoorIsdA
import Derived.Test.YtimlmekgapdkiaaDoorIsdB
import Derived.Test.YtimlmekgapdkiaaDoorIsdC
namespace Go.Proofs.YtimlmekgapdkiaaDoor
set_option linter.unusedVariables false
set_option linter.unusedSimpArgs false
open Go.RowKit Go.Cas
theorem c_sym {κ : Nat → Int} {pv : Value} {B g cap n : Nat} {w0 : World} (hcmp : CmpOk κ pv g w0) (hn : n ≤ 1000) : ∀ (d : Nat) (w : World) (L : List Nat) (a m b : Nat), b - a ≤ d → a < m → m < b → b ≤ n → SOk B g cap n w0 L w → KyB κ L → Srt κ L a m → Srt κ L m b →
    Calls Tryd.prog 120 #[.slice (some ⟨g, 0, none⟩) n cap, .int .i64 a, .int .i64 m, .int .i64 b, (cmpV pv)] w (SRet B g cap n w0 (fun L' => SM κ L L' a b ∧ Srt κ L' a b)) := by
  intro d
  induction d with
  | zero => intro w L a m b h1 h2 h3; omega
  | succ d ih =>
    intro w L a m b hd ham hmb hb h hs hA hB
    by_cases hma : m - a = 1
    · exact c_symA hn w L a m b ham hmb hb h hs hcmp hA hB hma
    · by_cases hbm : b - m = 1
      · exact c_symB hn w L a m b ham hmb hb h hs hcmp hA hB hma hbm
      · exact c_symC hn d ih w L a m b ham hmb hb h hs hcmp hA hB hd hma hbm
end Go.Proofs.YtimlmekgapdkiaaDoor
namespace Go.Proofs.YtimlmekgapdkiaaDoor
set_option linter.unusedVariables false
set_option linter.unusedSimpArgs false
open Go.RowKit Go.Cas

section
variable {κ : Nat → Int}

/-- all blocks of a size stand in order -/
def Blk (κ : Nat → Int) (L : List Nat) (bs n : Nat) : Prop := ∀ k : Nat, Srt κ L (k * bs) (min (k * bs + bs) n)
/-- the first k pairs are merged -/
structure Half (κ : Nat → Int) (L : List Nat) (bs n k : Nat) : Prop where
  done : ∀ k', k' < k → Srt κ L (k' * (2 * bs)) (k' * (2 * bs) + 2 * bs)
  rest : ∀ k', 2 * k ≤ k' → Srt κ L (k' * bs) (min (k' * bs + bs) n)
theorem Half.start {L : List Nat} {bs n : Nat} (h : Blk κ L bs n) : Half κ L bs n 0 := ⟨fun k h => by omega, fun k _ => h k⟩
theorem mul_two (k bs : Nat) : 2 * k * bs = k * (2 * bs) ∧ (2 * k + 1) * bs = k * (2 * bs) + bs := by
  have e : 2 * k * bs = k * (2 * bs) := by rw [Nat.mul_comm 2 k, Nat.mul_assoc]
  exact ⟨e, by rw [Nat.add_mul, e, Nat.one_mul]⟩
theorem Half.two {L : List Nat} {bs n k : Nat} (h : Half κ L bs n k) (hb : k * (2 * bs) + bs ≤ n) : Srt κ L (k * (2 * bs)) (k * (2 * bs) + bs) ∧ Srt κ L (k * (2 * bs) + bs) (min (k * (2 * bs) + 2 * bs) n) := by
  obtain ⟨e1, e2⟩ := mul_two k bs
  have h1 := h.rest (2 * k) (by omega)
  have h2 := h.rest (2 * k + 1) (by omega)
  rw [e1] at h1
  rw [e2] at h2
  rw [Nat.min_eq_left hb] at h1
  refine ⟨h1, ?_⟩
  rw [show k * (2 * bs) + bs + bs = k * (2 * bs) + 2 * bs by omega] at h2
  exact h2
theorem Half.next {L L' : List Nat} {bs n k : Nat} (h : Half κ L bs n k) (hm : SM κ L L' (k * (2 * bs)) (k * (2 * bs) + 2 * bs)) (hs : Srt κ L' (k * (2 * bs)) (k * (2 * bs) + 2 * bs)) : Half κ L' bs n (k + 1) := by
  refine ⟨fun k' hk => ?_, fun k' hk => ?_⟩
  · rcases Nat.lt_or_ge k' k with h1 | h1
    · refine (h.done k' h1).keep hm (.inl ?_)
      have := Nat.mul_le_mul_right (2 * bs) (show k' + 1 ≤ k by omega)
      rw [Nat.succ_mul] at this
      exact this
    · obtain rfl : k' = k := by omega
      exact hs
  · refine (h.rest k' (by omega)).keep hm (.inr ?_)
    have := Nat.mul_le_mul_right bs (show 2 * (k + 1) ≤ k' by omega)
    rw [(mul_two (k + 1) bs).1, Nat.succ_mul] at this
    exact this
theorem Half.fin {L L' : List Nat} {bs n k : Nat} (h : Half κ L bs n k) (ha : k * (2 * bs) ≤ n) (hb : n < k * (2 * bs) + 2 * bs) (hm : SM κ L L' (k * (2 * bs)) n) (hs : Srt κ L' (k * (2 * bs)) n) : Blk κ L' (2 * bs) n := by
  intro k'
  rcases Nat.lt_trichotomy k' k with h1 | h1 | h1
  · have h2 := Nat.mul_le_mul_right (2 * bs) (show k' + 1 ≤ k by omega)
    rw [Nat.succ_mul] at h2
    exact ((h.done k' h1).keep hm (.inl h2)).sub (Nat.le_refl _) (Nat.min_le_left _ _)
  · rw [h1]
    exact hs.sub (Nat.le_refl _) (Nat.min_le_right _ _)
  · have h2 := Nat.mul_le_mul_right (2 * bs) (show k + 1 ≤ k' by omega)
    rw [Nat.succ_mul] at h2
    intro i j i1 i2 i3
    omega
theorem Half.last {L : List Nat} {bs n k : Nat} (h : Half κ L bs n k) (hb : n ≤ k * (2 * bs) + bs) : Srt κ L (k * (2 * bs)) n := by
  have h1 := h.rest (2 * k) (by omega)
  rw [(mul_two k bs).1, Nat.min_eq_right hb] at h1
  exact h1
theorem Blk.all {L : List Nat} {bs n : Nat} (h : Blk κ L bs n) (hb : n ≤ bs) : Srt κ L 0 n := by
  have := h 0
  rw [Nat.zero_mul, Nat.zero_add, Nat.min_eq_right hb] at this
  exact this
/-- the first blocks -/
def Fir (κ : Nat → Int) (L : List Nat) (k : Nat) : Prop := ∀ k', k' < k → Srt κ L (k' * 20) (k' * 20 + 20)
theorem Fir.next {L L' : List Nat} {k : Nat} (h : Fir κ L k) (hm : SM κ L L' (k * 20) (k * 20 + 20)) (hs : Srt κ L' (k * 20) (k * 20 + 20)) : Fir κ L' (k + 1) := by
  intro k' hk
  rcases Nat.lt_or_ge k' k with h1 | h1
  · exact (h k' h1).keep hm (.inl (by omega))
  · obtain rfl : k' = k := by omega
    exact hs
theorem Fir.fin {L L' : List Nat} {k n : Nat} (h : Fir κ L k) (ha : k * 20 ≤ n) (hb : n < k * 20 + 20) (hm : SM κ L L' (k * 20) n) (hs : Srt κ L' (k * 20) n) : Blk κ L' 20 n := by
  intro k'
  rcases Nat.lt_trichotomy k' k with h1 | h1 | h1
  · exact ((h k' h1).keep hm (.inl (by omega))).sub (Nat.le_refl _) (Nat.min_le_left _ _)
  · rw [h1]; exact hs.sub (Nat.le_refl _) (Nat.min_le_right _ _)
  · intro i j i1 i2 i3; omega
end
set_option maxRecDepth 100000 in
set_option maxHeartbeats 16000000 in
theorem c_stable {κ : Nat → Int} {pv : Value} {B g cap n : Nat} {w0 w : World} {L : List Nat} (h : SOk B g cap n w0 L w) (hn : n ≤ 500) (hs : KyB κ L) (hcmp : CmpOk κ pv g w0) :
    Calls Tryd.prog 103 #[.slice (some ⟨g, 0, none⟩) n cap, .int .i64 n, (cmpV pv)] w (SRet B g cap n w0 (fun L' => SM κ L L' 0 n ∧ Srt κ L' 0 n)) := by
  have H := Lib.hid h; have HSP := Lib.hid hs
  have HCMP := Lib.hid hcmp
  have HR := Lib.hid (SM.refl κ L 0 n)
  clear h hs hcmp
  go_enter Tryd.func103, Tryd.ntmps103
  go_wp2_with fail
  go_loopw [7, 8] (fun x y wr => ∃ (k : Nat) (L' : List Nat), x = .int .i64 (k * 20 : Nat) ∧ y = .int .i64 (k * 20 + 20 : Nat) ∧ k * 20 ≤ n ∧ Hid (SM κ L L' 0 n) ∧ Hid (Fir κ L' k) ∧ Hid (SOk B g cap n w0 L' wr)) (fun x _ _ => n - (intOf x).toNat)
  case atStart => exact ⟨0, L, rfl, rfl, by omega, HR.out, fun k' h => by omega, H.out⟩
  case round =>
    obtain ⟨k, L', rfl, rfl, hk, HM, HF, HS⟩ := hrel
    obtain ⟨a, ha⟩ : ∃ a, a = k * 20 := ⟨_, rfl⟩
    have HAE := Lib.hid ha
    rw [← ha] at hk ⊢
    clear ha
    by_cases hlt : a + 20 ≤ n
    · skip
      have hik : ((a + 20 : Nat) : Int) ≤ (n : Int) := by omega
      have HC := Lib.hid (c_insert HS.out (by omega) (HSP.out.sm HM.out) HCMP.out a (a + 20) (by omega) hlt)
      have v1 : IntKind.i64.wrap (((a + 20 : Nat) : Int) + 20) = ((a + 20 + 20 : Nat) : Int) := by rw [IntWalk.i64_in _ (by omega)]; omega
      obtain ⟨b, hb⟩ : ∃ b, b = a + 20 := ⟨_, rfl⟩
      have HBE := Lib.hid hb
      rw [← hb] at hik HC v1 ⊢
      clear hb
      go_wp2_with fail
      refine HC.out.mono ?_
      rintro e w' ⟨⟨u, rfl⟩, L2, ⟨hm2, ht2⟩, hs2⟩
      have HS2 := Lib.hid hs2; have HM2 := Lib.hid hm2; have HT2 := Lib.hid ht2
      clear hs2 hm2 ht2
      have HF2 : Hid (Fir κ L2 (k + 1)) := by
        have h1 := HM2.out; have h2 := HT2.out
        rw [HBE.out, HAE.out] at h1 h2
        exact HF.out.next h1 h2
      have HM3 : Hid (SM κ L L2 0 n) := HM.out.trans HM2.out (by omega) (by have := HBE.out; omega)
      have HK : Hid (b = (k + 1) * 20) := by unfold Hid; rw [HBE.out, HAE.out]; omega
      go_wp2_with fail
      go_roundw
      case rel => exact ⟨k + 1, L2, by rw [← HK.out], by rw [← HK.out, Int.natCast_add]; rfl, by have := HK.out; have := HBE.out; omega, HM3.out, HF2.out, HS2.out⟩
      case measure =>
        have := HBE.out
        simp [intOf]; omega
    · have hik : ¬ ((a + 20 : Nat) : Int) ≤ (n : Int) := by omega
      obtain ⟨b, hb⟩ : ∃ b, b = a + 20 := ⟨_, rfl⟩
      have HBE := Lib.hid hb
      have hbn : n < b := by omega
      rw [← hb] at hik ⊢
      clear hb
      go_wp2_with fail
      have HINS : Hid (Calls Tryd.prog 119 #[.slice (some ⟨g, 0, none⟩) n cap, .int .i64 a, .int .i64 n, (cmpV pv)] wr (SRet B g cap n w0 (fun L2 => SM κ L' L2 a n ∧ Srt κ L2 a n))) := by
        by_cases han : a < n
        · exact c_insert HS.out (by omega) (HSP.out.sm HM.out) HCMP.out a n han (Nat.le_refl _)
        · refine (c_insert0 pv _ wr a n (by omega) (by omega)).mono ?_
          rintro e w' ⟨he, rfl⟩
          exact ⟨he, L', ⟨SM.refl κ L' a n, Srt.one L' a n (by omega)⟩, HS.out⟩
      refine HINS.out.mono ?_
      rintro e w' ⟨⟨u, rfl⟩, L2, ⟨hm2, ht2⟩, hs2⟩
      have HS2 := Lib.hid hs2
      have HM3 : Hid (SM κ L L2 0 n) := HM.out.trans hm2 (by omega) (Nat.le_refl _)
      have HBK : Hid (Blk κ L2 20 n) := by
        rw [HAE.out] at hm2 ht2
        exact HF.out.fin (by rw [← HAE.out]; exact hk) (by have := HAE.out; have := HBE.out; omega) hm2 ht2
      clear hs2 hm2 ht2
      go_wp2_with fail
      go_loopw [6, 7, 8] (fun z _ _ wr => ∃ (bs : Nat) (L' : List Nat), z = .int .i64 bs ∧ 20 ≤ bs ∧ bs ≤ 1000 ∧ Hid (SM κ L L' 0 n) ∧ Hid (Blk κ L' bs n) ∧ Hid (SOk B g cap n w0 L' wr)) (fun z _ _ _ => n - (intOf z).toNat)
      case atStart => exact ⟨20, L2, rfl, by omega, by omega, HM3.out, HBK.out, HS2.out⟩
      case round =>
        obtain ⟨bs, L', rfl, hbs, hbs2, HM, HBL, HS⟩ := hrel
        by_cases hlt2 : bs < n
        · skip
          have hik2 : (bs : Int) < (n : Int) := by omega
          have v1 : IntKind.i64.wrap (2 * (bs : Int)) = ((2 * bs : Nat) : Int) := by rw [IntWalk.i64_in _ (by omega)]; omega
          have v1b : IntKind.i64.wrap ((bs : Int) * 2) = ((2 * bs : Nat) : Int) := by rw [IntWalk.i64_in _ (by omega)]; omega
          have HH := Lib.hid (Half.start HBL.out)
          obtain ⟨b2, hb2⟩ : ∃ b2, b2 = 2 * bs := ⟨_, rfl⟩
          have HB2 := Lib.hid hb2
          have HBI : Hid ((b2 : Int) = 2 * (bs : Int)) := by unfold Hid; omega
          rw [← hb2] at v1 v1b
          go_wp2_with fail
          go_loopw [7, 8] (fun x y wr => ∃ (k a : Nat) (L' : List Nat), x = .int .i64 a ∧ y = .int .i64 (a + b2 : Nat) ∧ a ≤ n ∧ Hid (a = k * (2 * bs)) ∧ Hid (SM κ L L' 0 n) ∧ Hid (Half κ L' bs n k) ∧ Hid (SOk B g cap n w0 L' wr)) (fun x _ _ => n - (intOf x).toNat)
          case atStart => exact ⟨0, 0, L', rfl, by rw [Nat.zero_add, HBI.out], by omega, by unfold Hid; omega, HM.out, HH.out, HS.out⟩
          case round =>
            obtain ⟨k, a, L2, rfl, rfl, hak, HAK, HM2, HH2, HSS⟩ := hrel
            have v2 : IntKind.i64.wrap ((a : Int) + (bs : Int)) = ((a + bs : Nat) : Int) := by rw [IntWalk.i64_in _ (by omega)]; omega
            by_cases hlt3 : a + b2 ≤ n
            · skip
              have hik3 : ((a + b2 : Nat) : Int) ≤ (n : Int) := by omega
              have htwo := HH2.out.two (by rw [← HAK.out]; omega)
              rw [← HAK.out, ← HB2.out, Nat.min_eq_left hlt3] at htwo
              have HC := Lib.hid (c_sym (κ := κ) (pv := pv) (B := B) (g := g) (cap := cap) (n := n) (w0 := w0) HCMP.out (by omega) _ wr L2 a (a + bs) (a + b2) (Nat.le_refl _) (by omega) (by omega) hlt3 HSS.out (HSP.out.sm HM2.out) htwo.1 htwo.2)
              clear htwo
              have v3 : IntKind.i64.wrap (((a + b2 : Nat) : Int) + (b2 : Int)) = ((a + b2 + b2 : Nat) : Int) := by rw [IntWalk.i64_in _ (by omega)]; omega
              obtain ⟨b, hb⟩ : ∃ b, b = a + b2 := ⟨_, rfl⟩
              have HBE2 := Lib.hid hb
              rw [← hb] at hik3 HC v3 ⊢
              clear hb
              go_wp2_with fail
              refine HC.out.mono ?_
              rintro e w' ⟨⟨u, rfl⟩, L3, ⟨hm3, ht3⟩, hs3⟩
              have HS3 := Lib.hid hs3
              have HM4 : Hid (SM κ L L3 0 n) := HM2.out.trans hm3 (by omega) (by have := HBE2.out; omega)
              have HH3 : Hid (Half κ L3 bs n (k + 1)) := by
                rw [HBE2.out, HAK.out, HB2.out] at hm3 ht3
                exact HH2.out.next hm3 ht3
              have HAK2 : Hid (b = (k + 1) * (2 * bs)) := by unfold Hid; rw [HBE2.out, HAK.out, HB2.out, Nat.add_mul, Nat.one_mul]
              have hbn2 : b ≤ n := by have := HBE2.out; omega
              have hba : a < b := by have := HBE2.out; omega
              clear hs3 hm3 ht3
              go_wp2_with fail
              go_roundw
              case rel => exact ⟨k + 1, b, L3, rfl, by rw [Int.natCast_add, HBI.out], hbn2, HAK2.out, HM4.out, HH3.out, HS3.out⟩
              case measure => first | (simp [intOf]; done) | (simp [intOf]; omega)
            · have hik3 : ¬ ((a + b2 : Nat) : Int) ≤ (n : Int) := by omega
              have hb4 : b2 ≤ 1000 := by omega
              obtain ⟨b, hb⟩ : ∃ b, b = a + b2 := ⟨_, rfl⟩
              have HBE2 := Lib.hid hb
              rw [← hb] at hik3 ⊢
              clear hb
              by_cases hm : a + bs < n
              · skip
                have hm' : ((a + bs : Nat) : Int) < (n : Int) := by omega
                have htwo := HH2.out.two (by rw [← HAK.out]; omega)
                rw [← HAK.out, ← HB2.out, Nat.min_eq_right (by omega)] at htwo
                have HC := Lib.hid (c_sym (κ := κ) (pv := pv) (B := B) (g := g) (cap := cap) (n := n) (w0 := w0) HCMP.out (by omega) _ wr L2 a (a + bs) n (Nat.le_refl _) (by omega) hm (Nat.le_refl _) HSS.out (HSP.out.sm HM2.out) htwo.1 htwo.2)
                clear htwo
                obtain ⟨mm, hmm⟩ : ∃ mm, mm = a + bs := ⟨_, rfl⟩
                rw [← hmm] at HC v2 hm'
                clear hmm
                go_wp2_with fail
                refine HC.out.mono ?_
                rintro e w' ⟨⟨u, rfl⟩, L3, ⟨hm3, ht3⟩, hs3⟩
                have HS3 := Lib.hid hs3
                have HM4 : Hid (SM κ L L3 0 n) := HM2.out.trans hm3 (by omega) (Nat.le_refl _)
                have HBK2 : Hid (Blk κ L3 b2 n) := by
                  rw [HAK.out] at hm3 ht3
                  have := HH2.out.fin (by rw [← HAK.out]; exact hak) (by rw [← HAK.out, ← HB2.out]; omega) hm3 ht3
                  rw [HB2.out]; exact this
                clear hs3 hm3 ht3
                go_wp2_with fail
                go_roundw
                case rel => exact ⟨b2, L3, by rw [HBI.out], by have := HB2.out; omega, hb4, HM4.out, HBK2.out, HS3.out⟩
                case measure =>
                  have := HB2.out
                  simp [intOf]; omega
              · skip
                have hm' : ¬ ((a + bs : Nat) : Int) < (n : Int) := by omega
                have HBK2 : Hid (Blk κ L2 b2 n) := by
                  have h1 := HH2.out.last (by rw [← HAK.out]; omega)
                  have := HH2.out.fin (by rw [← HAK.out]; exact hak) (by rw [← HAK.out, ← HB2.out]; omega) (SM.refl κ L2 _ _) h1
                  rw [HB2.out]; exact this
                obtain ⟨mm, hmm⟩ : ∃ mm, mm = a + bs := ⟨_, rfl⟩
                rw [← hmm] at v2 hm'
                clear hmm
                go_wp2_with fail
                go_roundw
                case rel => exact ⟨b2, L2, by rw [HBI.out], by have := HB2.out; omega, hb4, HM2.out, HBK2.out, HSS.out⟩
                case measure =>
                  have := HB2.out
                  simp [intOf]; omega
        · have hik2 : ¬ (bs : Int) < (n : Int) := by omega
          go_wp2_with fail
          go_end0
          exact ⟨⟨_, rfl⟩, L', ⟨HM.out, HBL.out.all (by omega)⟩, HS.out⟩
end Go.Proofs.YtimlmekgapdkiaaDoor
namespace Go.Proofs.YtimlmekgapdkiaaDoor
set_option linter.unusedVariables false
set_option linter.unusedSimpArgs false
open Go.RowKit Go.Cas

set_option maxRecDepth 100000 in
theorem c_ins0 (v : Value) (w : World) (c : Value) : Calls Tryd.prog 119 #[v, .int .i64 0, .int .i64 0, c] w fun e w' => (∃ u, e = .returned u) ∧ w = w' := by
  go_enter Tryd.func119, Tryd.ntmps119
  go_wp2_with fail
  refine wp_loop_rounds 1 ?_
  rw [rounds_succ]
  go_wp2_with fail
  go_end0
  exact ⟨⟨_, rfl⟩, rfl⟩
def IsRet (κ : Nat → Int) (B : Nat) (v : Value) (L : List Nat) (w : World) (e : Ending) (w' : World) : Prop :=
  (∃ u, e = .returned u) ∧ ∃ L', SM κ L L' 0 L.length ∧ Srt κ L' 0 L.length ∧ w'.ownsRow B 3 1 v L'.length (kic L') ∧ Kept w w' (fun k => v.ownBlock = some k)
set_option maxRecDepth 100000 in
set_option maxHeartbeats 4000000 in
theorem c_isort {κ : Nat → Int} {pv : Value} {B : Nat} {w : World} {L : List Nat} {v : Value} (h : w.ownsRow B 3 1 v L.length (kic L)) (hn : L.length ≤ 500) (hs : KyB κ L) (hcmp : ∀ g, v.ownBlock = some g → CmpOk κ pv g w) :
    Calls Tryd.prog 75 #[v, (cmpV pv)] w (IsRet κ B v L w) := by
  obtain ⟨_, A, c, rfl, _, _⟩ := RdS.of_own h
  by_cases h0 : L.length = 0
  · have hD : L = [] := List.eq_nil_of_length_eq_zero h0
    subst hD
    have HOW := Lib.hid h
    have HI := Lib.hid (c_ins0 (.slice A 0 c) w (cmpV pv))
    have HST : Hid (Calls Tryd.prog 103 #[.slice A 0 c, .int .i64 (0 : Int), cmpV pv] w (fun e w' => (∃ u, e = .returned u) ∧ w = w')) := by
      unfold Hid
      go_enter Tryd.func103, Tryd.ntmps103
      go_wp2_with fail
      refine wp_loop_rounds 1 ?_
      rw [rounds_succ]
      go_wp2_with fail
      refine HI.out.mono ?_
      rintro e w' ⟨⟨u, rfl⟩, rfl⟩
      go_wp2_with fail
      refine wp_loop_rounds 1 ?_
      rw [rounds_succ]
      go_wp2_with fail
      go_end0
      exact ⟨⟨_, rfl⟩, rfl⟩
    have HK := Lib.hid (Kept.refl w (fun k => (Value.slice A 0 c).ownBlock = some k))
    have HM := Lib.hid (SM.refl κ ([] : List Nat) 0 0)
    clear h h0 hcmp hs
    go_enter Tryd.func75, Tryd.ntmps75
    go_wp2_with fail
    refine HST.out.mono ?_
    rintro e w' ⟨⟨u, rfl⟩, rfl⟩
    go_wp2_with fail
    go_end0
    exact ⟨⟨_, rfl⟩, [], HM.out, fun i j h1 h2 h3 => by simp at h3, HOW.out, HK.out⟩
  · obtain ⟨n, hnn⟩ : ∃ n, n = L.length := ⟨_, rfl⟩
    unfold IsRet
    rw [← hnn] at h h0 hn hcmp ⊢
    obtain ⟨g, cap, e, hcap, hg⟩ := h.form (by omega)
    injection e with e1 e2 e3
    subst e1 e3
    have hso : SOk B g c n w L w := ⟨h, Kept.refl _ _⟩
    have HC := Lib.hid (c_stable hso hn hs (hcmp g rfl))
    clear h hso h0 hs hg hcmp
    have HNN := Lib.hid hnn
    clear hnn
    go_enter Tryd.func75, Tryd.ntmps75
    go_wp2_with fail
    refine HC.out.mono ?_
    rintro e w' ⟨⟨u, rfl⟩, L', ⟨hm, hs'⟩, hs2⟩
    have HE := Lib.hid hm
    have HF := Lib.hid hs'
    have HS2 := Lib.hid hs2
    clear hm hs' hs2
    go_wp2_with fail
    go_end0
    refine ⟨⟨_, rfl⟩, L', HE.out, HF.out, ?_, ?_⟩
    · rw [HS2.out.len]; exact HS2.out.own
    · exact HS2.out.kept.mono (fun k _ hk => by subst hk; rfl)
end Go.Proofs.YtimlmekgapdkiaaDoor
