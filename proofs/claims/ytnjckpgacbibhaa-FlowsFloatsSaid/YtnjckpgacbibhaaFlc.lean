/- floats: the fit: the program's -/
import Derived.Test.YtnjckpgacbibhaaFlb
import Derived.Test.Ytnjckpgacbibhaamem2
namespace Go.Proofs.Ytnjckpgacbibhaa
set_option linter.unusedVariables false
set_option linter.unusedSimpArgs false
open Go.RowKit Go.Cas

theorem ed_bd {y h : Int} {L : List Flo} (gd : ∀ f ∈ L, FB f) {lo hi : Int} (h1 : -16777216 ≤ lo) (h2 : lo ≤ 16777216) (h3 : -16777216 ≤ hi) (h4 : hi ≤ 16777216) :
    (-16777216 ≤ edL y h L lo ∧ edL y h L lo ≤ 50331648) ∧ (-33554432 ≤ edR y h L hi ∧ edR y h L hi ≤ 16777216) := by
  constructor
  · refine ⟨Int.le_trans h1 (edL_ge _ _ _ _), ?_⟩
    have : ∀ (l : Int), l ≤ 50331648 → edL y h L l ≤ 50331648 := by
      clear h1 h2 h3 h4
      induction L with
      | nil => intro l h; exact h
      | cons f L ih =>
        intro l hl
        refine ih (fun f hf => gd f (List.mem_cons_of_mem _ hf)) _ ?_
        have := gd f List.mem_cons_self
        unfold FB at this
        split <;> omega
    exact this lo (by omega)
  · refine ⟨?_, Int.le_trans (edR_le _ _ _ _) h4⟩
    have : ∀ (l : Int), -33554432 ≤ l → -33554432 ≤ edR y h L l := by
      clear h1 h2 h3 h4
      induction L with
      | nil => intro l h; exact h
      | cons f L ih =>
        intro l hl
        refine ih (fun f hf => gd f (List.mem_cons_of_mem _ hf)) _ ?_
        have := gd f List.mem_cons_self
        unfold FB at this
        split <;> omega
    exact this hi (by omega)
theorem cand_bd {L : List Flo} (gd : ∀ f ∈ L, FB f) {c : Int} (hc : Cand L c) : -16777216 ≤ c ∧ c ≤ 10000000000 + 16777216 := by
  obtain ⟨f, hf, h⟩ := hc
  have := gd f hf
  unfold FB at this
  unfold Flo.bot at h
  omega
/-- better bounds for what is put -/
def FB2 (f : Flo) : Prop := FB f ∧ f.y ≤ 9000000000
set_option maxRecDepth 100000 in
set_option maxHeartbeats 8000000 in
theorem c_Fit (p lp lim n : Nat) (v : Value) (L : List Flo) (lo hi wd h fr : Int) (w : World) (kp : Bk w p 115 #[.int .i64 lo, .int .i64 hi, .pointer (some ⟨lp, 0, none⟩)]) (kl : Bk w lp 74 #[v]) (hr : RdS w lim 5 v n (fcs L)) (hlim : lim ≤ w.heap.size) (gd : ∀ f ∈ L, FB2 f) (hn : n ≤ 1000)
    (hlo : -16777216 ≤ lo ∧ lo ≤ 16777216) (hhi : -16777216 ≤ hi ∧ hi ≤ 16777216) (hwd : 0 ≤ wd ∧ wd ≤ 16777216) (hfr : -9000000000 ≤ fr ∧ fr ≤ 9000000000) (hh : 0 ≤ h ∧ h ≤ 16777216) : Calls Try.prog 76 #[.pointer (some ⟨p, 0, none⟩), .int .i64 wd, .int .i64 h, .int .i64 fr] w fun e w' => (∃ y, e = .returned (.tuple #[.int .i64 y, .int .i64 (edL y h L lo), .int .i64 (edR y h L hi)]) ∧ IsFit L lo hi wd h fr y) ∧ Below w.heap.size w w' := by
  have gd' : ∀ f ∈ L, FB f := fun f hf => (gd f hf).1
  have GD := Lib.hid gd'
  have GD2 := Lib.hid gd
  have HR := Lib.hid hr
  have KP := Lib.hid kp
  have KL := Lib.hid kl
  have HB := Lib.hid (Below.refl w.heap.size w)
  have HS := Lib.hid (Search.start L lo hi wd h fr)
  clear gd gd' hr kp kl
  go_enter Try.func76, Try.ntmps76
  go_wp2_with fail
  go_loopg [9] (above fr L) (fun k s wr => ∃ (y : Int), Hid (above y L = k) ∧ Hid (Search L lo hi wd h fr y) ∧ Hid (Bk wr w.heap.size 68 #[.pointer (some ⟨p, 0, none⟩)]) ∧ Hid (Bk wr (w.heap.size + 1) 3 #[.int .i64 y]) ∧ Hid (Below w.heap.size w wr))
  case atStart => exact ⟨fr, rfl, HS.out, (Bk.new _ _ _).alloc _, bk_new' _ _ _ (by simp), bl_alloc (bl_alloc HB.out _) _⟩
  case round =>
    obtain ⟨y, HK, HSE, HK1, HK2, HBL⟩ := hrel
    have hyb : -9000000000 ≤ y ∧ y ≤ 10000000000 - 16777216 := by
      rcases HSE.out.at_ with e | e
      · omega
      · have h1 := HSE.out.ge
        obtain ⟨f, hf, e⟩ := e
        have := GD2.out f hf
        unfold FB2 FB at this
        unfold Flo.bot at e
        omega
    obtain ⟨⟨l1, l2⟩, r1, r2⟩ := ed_bd (y := y) (h := h) GD.out hlo.1 hlo.2 hhi.1 hhi.2
    have hfd := Lib.hid (fitB_iff L lo hi wd h y)
    obtain ⟨l, hl⟩ : ∃ l, l = edL y h L lo := ⟨_, rfl⟩
    obtain ⟨r, hr⟩ : ∃ r, r = edR y h L hi := ⟨_, rfl⟩
    obtain ⟨s, hs⟩ : ∃ s, s = edS y h L := ⟨_, rfl⟩
    rw [← hl] at l1 l2; rw [← hr] at r1 r2
    have HL := Lib.hid hl; have HRr := Lib.hid hr; have HSS := Lib.hid hs
    have q1 := HK1.out.cell; have q2 := HK2.out.cell; have q3 := HK1.out.lt; have q4 := HK2.out.lt; have q5 := HK2.out.free
    have hce : ∀ wx, wx = wr → Calls Try.prog 77 #[.pointer (some ⟨p, 0, none⟩), .int .i64 y, .int .i64 h] wx fun e w' => e = .returned (.tuple #[.int .i64 l, .int .i64 r, .bool s]) ∧ Below wr.heap.size wr w' := by
      rintro wx rfl
      have := c_edges p lp lim n v L lo hi y h wx (KP.out.below HBL.out KP.out.lt) (KL.out.below HBL.out KL.out.lt) (HR.out.below' HBL.out hlim) (by have := HBL.out.size; omega) GD.out hn (by omega) (by omega)
      unfold edV at this
      rw [← hl, ← hr, ← hs] at this
      exact this
    have HCE := Lib.hid hce
    clear hl hr hs hce
    go_wp2_with fail
    refine (HCE.out _ rfl).mono ?_; rintro e w' ⟨rfl, hbl⟩
    have K1 := HK1.out.below hbl HK1.out.lt; have K2 := HK2.out.below hbl HK2.out.lt
    have HK1' := Lib.hid K1; have HK2' := Lib.hid K2
    have q1 := K1.cell; have q2 := K2.cell; have q3 := K1.lt; have q4 := K2.lt; have q5 := K2.free
    have HBL2 := Lib.hid (bl_trans HBL.out hbl)
    clear K1 K2 hbl
    by_cases hfit : s = false ∨ wd ≤ r - l
    · have HF : Hid (fitB L lo hi wd h y = true) := Lib.hid (by rw [hfd.out, ← HSS.out, ← HRr.out, ← HL.out]; exact hfit)
      rcases hfit with rfl | hfit
      · go_wp2_with fail
        exact bodyPost_ret (v := .tuple #[.int .i64 y, .int .i64 l, .int .i64 r]) (by simp [results, Try.results76, go_sem, q1, q2, q3, q4, q5]) rfl ⟨⟨y, by rw [HL.out, HRr.out], HSE.out.done HF.out⟩, bl_set HBL2.out _ _ (by omega) _⟩
      · cases s
        all_goals
          go_wp2_with fail
          exact bodyPost_ret (v := .tuple #[.int .i64 y, .int .i64 l, .int .i64 r]) (by simp [results, Try.results76, go_sem, q1, q2, q3, q4, q5]) rfl ⟨⟨y, by rw [HL.out, HRr.out], HSE.out.done HF.out⟩, bl_set HBL2.out _ _ (by omega) _⟩
    · have hs : s = true := by cases s; exact absurd (.inl rfl) hfit; rfl
      have hw : ¬ wd ≤ r - l := fun h => hfit (.inr h)
      have HF : Hid (fitB L lo hi wd h y = false) := Lib.hid (by
        rcases e : fitB L lo hi wd h y
        · rfl
        · rw [hfd.out, ← HSS.out, ← HRr.out, ← HL.out] at e; exact absurd e hfit)
      subst hs
      clear hfit
      have hcn : ∀ wx, wx = w' → Calls Try.prog 92 #[.pointer (some ⟨w.heap.size, 0, none⟩), .pointer (some ⟨w.heap.size + 1, 0, none⟩)] wx fun e w9 => e = .returned (.int .i64 (nxB y L 0 false)) ∧ Below w'.heap.size w' w9 := by
        rintro wx rfl
        exact c_next p lp w.heap.size (w.heap.size + 1) lim n v L lo hi y _ HK1'.out HK2'.out (KP.out.below HBL2.out KP.out.lt) (KL.out.below HBL2.out KL.out.lt) (HR.out.below' HBL2.out hlim) (by have := HBL2.out.size; omega) GD.out hn (by omega)
      have HCN := Lib.hid hcn
      clear hcn
      go_wp2_with fail
      refine (HCN.out _ rfl).mono ?_; rintro e w2 ⟨rfl, hbl⟩
      have K1 := HK1'.out.below hbl HK1'.out.lt; have K2 := HK2'.out.below hbl HK2'.out.lt
      have HK1' := Lib.hid K1; have HK2' := Lib.hid K2
      have q1 := K1.cell; have q2 := K2.cell; have q3 := K1.lt; have q4 := K2.lt; have q5 := K2.free
      have HBL3 := Lib.hid (bl_trans HBL2.out hbl)
      clear K1 K2 hbl
      go_wp2_with fail
      obtain ⟨n1, n2, n3⟩ := HSE.out.next HF.out
      go_roundg (above (nxB y L 0 false) L)
      case measure => rw [← HK.out]; exact n2
      case rel => exact ⟨nxB y L 0 false, rfl, n1, HK1'.out.far (by simp) _, by have := HK2'.out.set_ 0 (.int .i64 (nxB y L 0 false)); simpa [Hid] using this, bl_set HBL3.out _ _ (by omega) _⟩
end Go.Proofs.Ytnjckpgacbibhaa
