/- floats: the fit: the reference's -/
import Derived.Test.YtnjckpgacbibhaaFlc
namespace Go.Proofs.Ytnjckpgacbibhaa
set_option linter.unusedVariables false
set_option linter.unusedSimpArgs false
open Go.RowKit Go.Cas

def cl (fr : Int) (L : List Flo) : List Int := fr :: L.flatMap fun f => [f.y, f.bot]
theorem cl_mem {fr c : Int} {L : List Flo} : c ∈ cl fr L ↔ (c = fr ∨ Cand L c) := by
  unfold cl Cand
  rw [List.mem_cons, List.mem_flatMap]
  simp
theorem cl_len (fr : Int) (L : List Flo) : (cl fr L).length = 2 * L.length + 1 := by
  unfold cl
  rw [List.length_cons]
  congr 1
  induction L with
  | nil => rfl
  | cons f L ih => rw [List.flatMap_cons, List.length_append, ih]; simp; omega
theorem fm_get (L : List Flo) (j : Nat) (f : Flo) (h : L[j]? = some f) : (L.flatMap fun f => [f.y, f.bot])[2 * j]? = some f.y ∧ (L.flatMap fun f => [f.y, f.bot])[2 * j + 1]? = some f.bot := by
  induction L generalizing j with
  | nil => simp at h
  | cons g L ih =>
    cases j with
    | zero => simp at h; subst h; simp
    | succ j =>
      simp at h
      have := ih j h
      rw [List.flatMap_cons]
      rw [List.getElem?_append_right (by simp; omega), List.getElem?_append_right (by simp; omega)]
      simp only [List.length_cons, List.length_nil]
      rw [show 2 * (j + 1) - (0 + 1 + 1) = 2 * j by omega, show 2 * (j + 1) + 1 - (0 + 1 + 1) = 2 * j + 1 by omega]
      exact this
theorem cl_get {fr : Int} {L : List Flo} {j : Nat} {f : Flo} (h : L[j]? = some f) : (cl fr L)[2 * j + 1]? = some f.y ∧ (cl fr L)[2 * j + 1 + 1]? = some f.bot := by
  unfold cl
  rw [List.getElem?_cons_succ, List.getElem?_cons_succ]
  exact fm_get L j f h
/-- the search through the list of heights -/
structure RS (P : Int → Bool) (fr : Int) (M : List Int) (best : Int) (found : Bool) : Prop where
  yes : found = true → best ∈ M ∧ fr ≤ best ∧ P best = true ∧ ∀ c ∈ M, fr ≤ c → P c = true → best ≤ c
  no : found = false → ∀ c ∈ M, fr ≤ c → P c = false
theorem RS.start (P : Int → Bool) (fr b : Int) : RS P fr [] b false := ⟨by simp, by simp⟩
theorem RS.nil {P : Int → Bool} {fr b : Int} {s : Bool} (h : RS P fr [] b s) : s = false := by
  cases s
  · rfl
  · have := (h.yes rfl).1; cases this
section
variable {P : Int → Bool} {fr best c : Int} {M : List Int} {found : Bool}
theorem RS.skip (h : RS P fr M best found) (hc : c < fr ∨ (found = true ∧ best ≤ c) ∨ P c = false) : RS P fr (M ++ [c]) best found := by
  constructor
  · intro hf
    obtain ⟨h1, h2, h3, h4⟩ := h.yes hf
    refine ⟨List.mem_append_left _ h1, h2, h3, fun d hd hg hp => ?_⟩
    rcases List.mem_append.1 hd with hd | hd
    · exact h4 d hd hg hp
    · rw [List.mem_singleton] at hd; subst hd
      rcases hc with hc | ⟨_, hc⟩ | hc
      · omega
      · exact hc
      · rw [hc] at hp; cases hp
  · intro hf d hd hg
    rcases List.mem_append.1 hd with hd | hd
    · exact h.no hf d hd hg
    · rw [List.mem_singleton] at hd; subst hd
      rcases hc with hc | ⟨h1, _⟩ | hc
      · omega
      · rw [hf] at h1; cases h1
      · exact hc
theorem RS.take (h : RS P fr M best found) (hg : fr ≤ c) (hn : ¬ (found = true ∧ best ≤ c)) (hp : P c = true) : RS P fr (M ++ [c]) c true := by
  refine ⟨fun _ => ⟨by simp, hg, hp, fun d hd hgd hpd => ?_⟩, by simp⟩
  rcases List.mem_append.1 hd with hd | hd
  · cases found
    · rw [h.no rfl d hd hgd] at hpd; cases hpd
    · have := (h.yes rfl).2.2.2 d hd hgd hpd
      have : ¬ best ≤ c := fun h => hn ⟨rfl, h⟩
      omega
  · rw [List.mem_singleton] at hd; subst hd; exact Int.le_refl _
end
theorem RS.fin {L : List Flo} {lo hi w h fr best : Int} {found : Bool} (s : RS (fitB L lo hi w h) fr (cl fr L) best found) : IsFit L lo hi w h fr best := by
  cases found
  · obtain ⟨c, h1, h2, h3⟩ := fit_some L lo hi w h fr
    rw [s.no rfl c (cl_mem.2 h1) h2] at h3; cases h3
  · obtain ⟨h1, h2, h3, h4⟩ := s.yes rfl
    exact ⟨cl_mem.1 h1, h2, h3, fun c hc hg hp => h4 c (cl_mem.2 hc) hg hp⟩
theorem take_snoc' {M : List Int} {m : Nat} {c : Int} (h : M[m]? = some c) : M.take (m + 1) = M.take m ++ [c] := by
  obtain ⟨h1, h2⟩ := List.getElem?_eq_some_iff.1 h
  rw [List.take_succ_eq_append_getElem h1, h2]

set_option maxRecDepth 100000 in
set_option maxHeartbeats 16000000 in
theorem c_FitR (p lim n : Nat) (v : Value) (L : List Flo) (lo hi wd h fr : Int) (w : World) (kp : Bk w p 83 #[.int .i64 lo, .int .i64 hi, v]) (hr : RdS w lim 5 v n (fcs L)) (hlim : lim ≤ w.heap.size) (gd : ∀ f ∈ L, FB2 f) (hn : n ≤ 1000)
    (hlo : -16777216 ≤ lo ∧ lo ≤ 16777216) (hhi : -16777216 ≤ hi ∧ hi ≤ 16777216) (hwd : 0 ≤ wd ∧ wd ≤ 16777216) (hfr : -9000000000 ≤ fr ∧ fr ≤ 9000000000) (hh : 0 ≤ h ∧ h ≤ 16777216) : Calls Try.prog 80 #[.pointer (some ⟨p, 0, none⟩), .int .i64 wd, .int .i64 h, .int .i64 fr] w fun e w' => (∃ y, e = .returned (.tuple #[.int .i64 y, .int .i64 (edL y h L lo), .int .i64 (edR y h L hi)]) ∧ IsFit L lo hi wd h fr y) ∧ Below w.heap.size w w' := by
  have gd' : ∀ f ∈ L, FB f := fun f hf => (gd f hf).1
  have GD := Lib.hid gd'
  have GD2 := Lib.hid gd
  have HR := Lib.hid hr
  have KP := Lib.hid kp
  have HB := Lib.hid (Below.refl w.heap.size w)
  obtain ⟨hl, A, c, rfl, hnc, hcell⟩ := hr
  have hlen : L.length = n := by rw [fcs_len] at hl; omega
  have HN := Lib.hid hlen
  have HC := Lib.hid hcell
  have HS := Lib.hid (RS.start (fitB L lo hi wd h) fr 0)
  clear hcell hl hlen gd gd' kp
  have hce : ∀ (wr wx : World) (y : Int), Below w.heap.size w wr → wx = wr → -9000000000 ≤ y → y ≤ 10000000000 - 16777216 → Calls Try.prog 47 #[.pointer (some ⟨p, 0, none⟩), .int .i64 y, .int .i64 h] wx fun e w' => ∃ l r s, e = .returned (.tuple #[.int .i64 l, .int .i64 r, .bool s]) ∧ Below wr.heap.size wr w' ∧ Hid (l = edL y h L lo) ∧ Hid (r = edR y h L hi) ∧ ((s = false ∨ wd ≤ r - l) ↔ fitB L lo hi wd h y = true) ∧ -16777216 ≤ l ∧ l ≤ 50331648 ∧ -33554432 ≤ r ∧ r ≤ 16777216 := by
    rintro wr wx y HBL rfl hy1 hy2
    refine (c_EdgesR p lim n _ L lo hi y h _ (KP.out.below HBL KP.out.lt) (HR.out.below' HBL hlim) (by have := HBL.size; omega) GD.out hn (by omega) (by omega)).mono ?_
    rintro e w' ⟨rfl, hb⟩
    obtain ⟨⟨l1, l2⟩, r1, r2⟩ := ed_bd (y := y) (h := h) GD.out hlo.1 hlo.2 hhi.1 hhi.2
    exact ⟨_, _, _, rfl, hb, rfl, rfl, (fitB_iff L lo hi wd h y).symm, l1, l2, r1, r2⟩
  have HCE := Lib.hid hce
  clear hce
  have q0 := KP.out.cell
  have q1 := KP.out.lt
  go_enter Try.func80, Try.ntmps80
  go_wp2_with fail
  clear q0
  go_loopw [11, 12, 13] (fun b s i wr => ∃ (m : Nat) (b' : Int) (s' : Bool), m ≤ 2 * n + 1 ∧ i = .int .i64 ((m : Int) - 1) ∧ b = .int .i64 b' ∧ s = .bool s' ∧ Hid (RS (fitB L lo hi wd h) fr ((cl fr L).take m) b' s') ∧ Hid (Below w.heap.size w wr)) (fun _ _ i _ => 2 * n + 1 - (intOf i + 1).toNat)
  case atStart => exact ⟨0, 0, false, by omega, rfl, rfl, rfl, HS.out, HB.out⟩
  case round =>
    obtain ⟨m, b', s', hm, rfl, rfl, rfl, HRS, HBL⟩ := hrel
    have kq := (KP.out.below HBL.out KP.out.lt).cell
    have kl := (KP.out.below HBL.out KP.out.lt).lt
    by_cases hlt : m < 2 * n + 1
    · have hdone := Lib.hid (cl_len fr L)
      rcases Nat.eq_zero_or_pos m with hm0 | hm0
      · subst hm0
        have CG : Hid ((cl fr L)[0]? = some fr) := rfl
        simp only [List.take_zero] at HRS
        have e0 : ((0 : Nat) : Int) - 1 = -1 := rfl
        rw [e0]
        clear e0
        have hi1 : (-1 : Int) < 2 * (n : Int) := by omega
        obtain rfl : s' = false := HRS.out.nil
        have hlow : ¬ fr < fr := by omega
        have hfar : ¬ (false = true ∧ b' ≤ fr) := by simp
        · have HFAR := Lib.hid hfar
          clear hfar
          go_wp2_with fail
          refine (HCE.out _ _ fr (HBL.out) rfl (by omega) (by omega)).mono ?_; rintro e w' ⟨l, r, s, rfl, hbl, HL, HRr, hfi, l1, l2, r1, r2⟩
          have HBL2 := Lib.hid (bl_trans (HBL.out) hbl)
          clear hbl
          by_cases hfit : s = false ∨ wd ≤ r - l
          · have HF := Lib.hid (hfi.1 hfit)
            clear hfi
            rcases hfit with rfl | hfit
            · go_wp2_with fail
              go_roundw
              case rel => exact ⟨0 + 1, fr, true, by omega, by go_num, rfl, rfl, by rw [take_snoc' CG.out]; exact HRS.out.take (by omega) (by simp) HF.out, HBL2.out⟩
              case measure => first | (simp [intOf]; done) | (simp [intOf]; omega)
            · cases s
              all_goals
                go_wp2_with fail
                go_roundw
                case rel => exact ⟨0 + 1, fr, true, by omega, by go_num, rfl, rfl, by rw [take_snoc' CG.out]; exact HRS.out.take (by omega) (by simp) HF.out, HBL2.out⟩
                case measure => first | (simp [intOf]; done) | (simp [intOf]; omega)
          · have HF : Hid (fitB L lo hi wd h fr = false) := Lib.hid (by rcases e : fitB L lo hi wd h fr; rfl; exact absurd (hfi.2 e) hfit)
            have hs : s = true := by cases s; exact absurd (.inl rfl) hfit; rfl
            have hw : ¬ wd ≤ r - l := fun h => hfit (.inr h)
            subst hs
            clear hfit hfi
            go_wp2_with fail
            go_roundw
            case rel => exact ⟨0 + 1, b', false, by omega, by go_num, rfl, rfl, by rw [take_snoc' CG.out]; exact HRS.out.skip (.inr (.inr HF.out)), HBL2.out⟩
            case measure => first | (simp [intOf]; done) | (simp [intOf]; omega)
      · obtain ⟨j, hj | hj⟩ : ∃ j, m = 2 * j + 1 ∨ m = 2 * j + 1 + 1 := ⟨(m - 1) / 2, by omega⟩
        · subst hj
          have e0 : ((2 * j + 1 : Nat) : Int) - 1 = 2 * (j : Int) := by omega
          rw [e0]
          clear e0
          have t1 : 2 * (j : Int) < 2 * (n : Int) := by omega
          have t2 : 2 * (j : Int) / 2 = (j : Int) := by omega
          have t3 : 2 * (j : Int) % 2 = 0 := by omega
          have hjn : j < n := by omega
          have hkL : j < L.length := by rw [HN.out]; exact hjn
          obtain ⟨g, o, rfl, hg, hc⟩ := HC.out (by omega)
          obtain ⟨f, hf⟩ : ∃ f, L[j]? = some f := ⟨_, List.getElem?_eq_getElem hkL⟩
          have hb := GD2.out f (List.mem_of_getElem? hf)
          obtain ⟨d0, d1, d2, d3, d4⟩ := rd_cells hc hf
          have lift : ∀ {q u}, w.cell? ⟨g, q, none⟩ = some u → wr.cell? ⟨g, q, none⟩ = some u := fun {q u} e => (HBL.out.cell (p := ⟨g, q, none⟩) (by show g < _; omega)).trans e
          replace d0 := lift d0; replace d1 := lift d1; replace d2 := lift d2; replace d3 := lift d3; replace d4 := lift d4
          have CG : Hid ((cl fr L)[2 * j + 1]? = some f.y) := (cl_get hf).1
          clear lift hc hf hg
          obtain ⟨r, x, fy, fw, fh⟩ := f
          simp only [Flo.bot] at CG
          simp only at d0 d1 d2 d3 d4
          obtain ⟨⟨b1, b2, b3, b4, b5, b6, b7, b8⟩, b9⟩ := hb
          simp only at b1 b2 b3 b4 b5 b6 b7 b8 b9
          by_cases hlow : fy < fr
          · go_wp2_with fail
            go_roundw
            case rel => exact ⟨(2 * j + 1) + 1, b', s', by omega, by go_num, rfl, rfl, by rw [take_snoc' CG.out]; exact HRS.out.skip (.inl hlow), bl_alloc HBL.out _⟩
            case measure => first | (simp [intOf]; done) | (simp [intOf]; omega)
          · by_cases hfar : s' = true ∧ b' ≤ fy
            · obtain ⟨rfl, hfar⟩ := hfar
              go_wp2_with fail
              go_roundw
              case rel => exact ⟨(2 * j + 1) + 1, b', true, by omega, by go_num, rfl, rfl, by rw [take_snoc' CG.out]; exact HRS.out.skip (.inr (.inl ⟨rfl, hfar⟩)), bl_alloc HBL.out _⟩
              case measure => first | (simp [intOf]; done) | (simp [intOf]; omega)
            · have HFAR := Lib.hid hfar
              clear hfar
              cases s'
              · skip
                go_wp2_with fail
                refine (HCE.out _ _ fy (bl_alloc HBL.out _) rfl (by omega) (by omega)).mono ?_; rintro e w' ⟨l, r, s, rfl, hbl, HL, HRr, hfi, l1, l2, r1, r2⟩
                have HBL2 := Lib.hid (bl_trans (bl_alloc HBL.out _) hbl)
                clear hbl
                by_cases hfit : s = false ∨ wd ≤ r - l
                · have HF := Lib.hid (hfi.1 hfit)
                  clear hfi
                  rcases hfit with rfl | hfit
                  · go_wp2_with fail
                    go_roundw
                    case rel => exact ⟨(2 * j + 1) + 1, fy, true, by omega, by go_num, rfl, rfl, by rw [take_snoc' CG.out]; exact HRS.out.take (by omega) (by simp) HF.out, HBL2.out⟩
                    case measure => first | (simp [intOf]; done) | (simp [intOf]; omega)
                  · cases s
                    all_goals
                      go_wp2_with fail
                      go_roundw
                      case rel => exact ⟨(2 * j + 1) + 1, fy, true, by omega, by go_num, rfl, rfl, by rw [take_snoc' CG.out]; exact HRS.out.take (by omega) (by simp) HF.out, HBL2.out⟩
                      case measure => first | (simp [intOf]; done) | (simp [intOf]; omega)
                · have HF : Hid (fitB L lo hi wd h fy = false) := Lib.hid (by rcases e : fitB L lo hi wd h fy; rfl; exact absurd (hfi.2 e) hfit)
                  have hs : s = true := by cases s; exact absurd (.inl rfl) hfit; rfl
                  have hw : ¬ wd ≤ r - l := fun h => hfit (.inr h)
                  subst hs
                  clear hfit hfi
                  go_wp2_with fail
                  go_roundw
                  case rel => exact ⟨(2 * j + 1) + 1, b', false, by omega, by go_num, rfl, rfl, by rw [take_snoc' CG.out]; exact HRS.out.skip (.inr (.inr HF.out)), HBL2.out⟩
                  case measure => first | (simp [intOf]; done) | (simp [intOf]; omega)
              · have hnf : ¬ b' ≤ fy := fun h => HFAR.out ⟨rfl, h⟩
                go_wp2_with fail
                refine (HCE.out _ _ fy (bl_alloc HBL.out _) rfl (by omega) (by omega)).mono ?_; rintro e w' ⟨l, r, s, rfl, hbl, HL, HRr, hfi, l1, l2, r1, r2⟩
                have HBL2 := Lib.hid (bl_trans (bl_alloc HBL.out _) hbl)
                clear hbl
                by_cases hfit : s = false ∨ wd ≤ r - l
                · have HF := Lib.hid (hfi.1 hfit)
                  clear hfi
                  rcases hfit with rfl | hfit
                  · go_wp2_with fail
                    go_roundw
                    case rel => exact ⟨(2 * j + 1) + 1, fy, true, by omega, by go_num, rfl, rfl, by rw [take_snoc' CG.out]; exact HRS.out.take (by omega) (fun h => by have := h.2; omega) HF.out, HBL2.out⟩
                    case measure => first | (simp [intOf]; done) | (simp [intOf]; omega)
                  · cases s
                    all_goals
                      go_wp2_with fail
                      go_roundw
                      case rel => exact ⟨(2 * j + 1) + 1, fy, true, by omega, by go_num, rfl, rfl, by rw [take_snoc' CG.out]; exact HRS.out.take (by omega) (fun h => by have := h.2; omega) HF.out, HBL2.out⟩
                      case measure => first | (simp [intOf]; done) | (simp [intOf]; omega)
                · have HF : Hid (fitB L lo hi wd h fy = false) := Lib.hid (by rcases e : fitB L lo hi wd h fy; rfl; exact absurd (hfi.2 e) hfit)
                  have hs : s = true := by cases s; exact absurd (.inl rfl) hfit; rfl
                  have hw : ¬ wd ≤ r - l := fun h => hfit (.inr h)
                  subst hs
                  clear hfit hfi
                  go_wp2_with fail
                  go_roundw
                  case rel => exact ⟨(2 * j + 1) + 1, b', true, by omega, by go_num, rfl, rfl, by rw [take_snoc' CG.out]; exact HRS.out.skip (.inr (.inr HF.out)), HBL2.out⟩
                  case measure => first | (simp [intOf]; done) | (simp [intOf]; omega)
        · subst hj
          have e0 : ((2 * j + 1 + 1 : Nat) : Int) - 1 = 2 * (j : Int) + 1 := by omega
          rw [e0]
          clear e0
          have t1 : 2 * (j : Int) + 1 < 2 * (n : Int) := by omega
          have t2 : (2 * (j : Int) + 1) / 2 = (j : Int) := by omega
          have t3 : (2 * (j : Int) + 1) % 2 = 1 := by omega
          have hjn : j < n := by omega
          have hkL : j < L.length := by rw [HN.out]; exact hjn
          obtain ⟨g, o, rfl, hg, hc⟩ := HC.out (by omega)
          obtain ⟨f, hf⟩ : ∃ f, L[j]? = some f := ⟨_, List.getElem?_eq_getElem hkL⟩
          have hb := GD2.out f (List.mem_of_getElem? hf)
          obtain ⟨d0, d1, d2, d3, d4⟩ := rd_cells hc hf
          have lift : ∀ {q u}, w.cell? ⟨g, q, none⟩ = some u → wr.cell? ⟨g, q, none⟩ = some u := fun {q u} e => (HBL.out.cell (p := ⟨g, q, none⟩) (by show g < _; omega)).trans e
          replace d0 := lift d0; replace d1 := lift d1; replace d2 := lift d2; replace d3 := lift d3; replace d4 := lift d4
          have CG : Hid ((cl fr L)[2 * j + 1 + 1]? = some f.bot) := (cl_get hf).2
          clear lift hc hf hg
          obtain ⟨r, x, fy, fw, fh⟩ := f
          simp only [Flo.bot] at CG
          simp only at d0 d1 d2 d3 d4
          obtain ⟨⟨b1, b2, b3, b4, b5, b6, b7, b8⟩, b9⟩ := hb
          simp only at b1 b2 b3 b4 b5 b6 b7 b8 b9
          by_cases hlow : (fy + max fh 1) < fr
          · (go_wp2_with fail; go_quiet ((go_at_call 71; first | exact q_left (c_most4 _ _ _) | exact q_add (c_most4 _ _ _))); go_wp2_with fail)
            go_roundw
            case rel => exact ⟨(2 * j + 1 + 1) + 1, b', s', by omega, by go_num, rfl, rfl, by rw [take_snoc' CG.out]; exact HRS.out.skip (.inl hlow), bl_drewN (bl_alloc HBL.out _) _⟩
            case measure => first | (simp [intOf]; done) | (simp [intOf]; omega)
          · by_cases hfar : s' = true ∧ b' ≤ (fy + max fh 1)
            · obtain ⟨rfl, hfar⟩ := hfar
              (go_wp2_with fail; go_quiet ((go_at_call 71; first | exact q_left (c_most4 _ _ _) | exact q_add (c_most4 _ _ _))); go_wp2_with fail)
              go_roundw
              case rel => exact ⟨(2 * j + 1 + 1) + 1, b', true, by omega, by go_num, rfl, rfl, by rw [take_snoc' CG.out]; exact HRS.out.skip (.inr (.inl ⟨rfl, hfar⟩)), bl_drewN (bl_alloc HBL.out _) _⟩
              case measure => first | (simp [intOf]; done) | (simp [intOf]; omega)
            · have HFAR := Lib.hid hfar
              clear hfar
              cases s'
              · skip
                (go_wp2_with fail; go_quiet ((go_at_call 71; first | exact q_left (c_most4 _ _ _) | exact q_add (c_most4 _ _ _))); go_wp2_with fail)
                refine (HCE.out _ _ (fy + max fh 1) (bl_drewN (bl_alloc HBL.out _) _) rfl (by omega) (by omega)).mono ?_; rintro e w' ⟨l, r, s, rfl, hbl, HL, HRr, hfi, l1, l2, r1, r2⟩
                have HBL2 := Lib.hid (bl_trans (bl_drewN (bl_alloc HBL.out _) _) hbl)
                clear hbl
                by_cases hfit : s = false ∨ wd ≤ r - l
                · have HF := Lib.hid (hfi.1 hfit)
                  clear hfi
                  rcases hfit with rfl | hfit
                  · go_wp2_with fail
                    go_roundw
                    case rel => exact ⟨(2 * j + 1 + 1) + 1, (fy + max fh 1), true, by omega, by go_num, rfl, rfl, by rw [take_snoc' CG.out]; exact HRS.out.take (by omega) (by simp) HF.out, HBL2.out⟩
                    case measure => first | (simp [intOf]; done) | (simp [intOf]; omega)
                  · cases s
                    all_goals
                      go_wp2_with fail
                      go_roundw
                      case rel => exact ⟨(2 * j + 1 + 1) + 1, (fy + max fh 1), true, by omega, by go_num, rfl, rfl, by rw [take_snoc' CG.out]; exact HRS.out.take (by omega) (by simp) HF.out, HBL2.out⟩
                      case measure => first | (simp [intOf]; done) | (simp [intOf]; omega)
                · have HF : Hid (fitB L lo hi wd h (fy + max fh 1) = false) := Lib.hid (by rcases e : fitB L lo hi wd h (fy + max fh 1); rfl; exact absurd (hfi.2 e) hfit)
                  have hs : s = true := by cases s; exact absurd (.inl rfl) hfit; rfl
                  have hw : ¬ wd ≤ r - l := fun h => hfit (.inr h)
                  subst hs
                  clear hfit hfi
                  go_wp2_with fail
                  go_roundw
                  case rel => exact ⟨(2 * j + 1 + 1) + 1, b', false, by omega, by go_num, rfl, rfl, by rw [take_snoc' CG.out]; exact HRS.out.skip (.inr (.inr HF.out)), HBL2.out⟩
                  case measure => first | (simp [intOf]; done) | (simp [intOf]; omega)
              · have hnf : ¬ b' ≤ (fy + max fh 1) := fun h => HFAR.out ⟨rfl, h⟩
                (go_wp2_with fail; go_quiet ((go_at_call 71; first | exact q_left (c_most4 _ _ _) | exact q_add (c_most4 _ _ _))); go_wp2_with fail)
                refine (HCE.out _ _ (fy + max fh 1) (bl_drewN (bl_alloc HBL.out _) _) rfl (by omega) (by omega)).mono ?_; rintro e w' ⟨l, r, s, rfl, hbl, HL, HRr, hfi, l1, l2, r1, r2⟩
                have HBL2 := Lib.hid (bl_trans (bl_drewN (bl_alloc HBL.out _) _) hbl)
                clear hbl
                by_cases hfit : s = false ∨ wd ≤ r - l
                · have HF := Lib.hid (hfi.1 hfit)
                  clear hfi
                  rcases hfit with rfl | hfit
                  · go_wp2_with fail
                    go_roundw
                    case rel => exact ⟨(2 * j + 1 + 1) + 1, (fy + max fh 1), true, by omega, by go_num, rfl, rfl, by rw [take_snoc' CG.out]; exact HRS.out.take (by omega) (fun h => by have := h.2; omega) HF.out, HBL2.out⟩
                    case measure => first | (simp [intOf]; done) | (simp [intOf]; omega)
                  · cases s
                    all_goals
                      go_wp2_with fail
                      go_roundw
                      case rel => exact ⟨(2 * j + 1 + 1) + 1, (fy + max fh 1), true, by omega, by go_num, rfl, rfl, by rw [take_snoc' CG.out]; exact HRS.out.take (by omega) (fun h => by have := h.2; omega) HF.out, HBL2.out⟩
                      case measure => first | (simp [intOf]; done) | (simp [intOf]; omega)
                · have HF : Hid (fitB L lo hi wd h (fy + max fh 1) = false) := Lib.hid (by rcases e : fitB L lo hi wd h (fy + max fh 1); rfl; exact absurd (hfi.2 e) hfit)
                  have hs : s = true := by cases s; exact absurd (.inl rfl) hfit; rfl
                  have hw : ¬ wd ≤ r - l := fun h => hfit (.inr h)
                  subst hs
                  clear hfit hfi
                  go_wp2_with fail
                  go_roundw
                  case rel => exact ⟨(2 * j + 1 + 1) + 1, b', true, by omega, by go_num, rfl, rfl, by rw [take_snoc' CG.out]; exact HRS.out.skip (.inr (.inr HF.out)), HBL2.out⟩
                  case measure => first | (simp [intOf]; done) | (simp [intOf]; omega)
    · obtain rfl : m = 2 * n + 1 := by omega
      have e0 : ((2 * n + 1 : Nat) : Int) - 1 = 2 * (n : Int) := by omega
      rw [e0]
      clear e0
      have HFN : Hid (IsFit L lo hi wd h fr b') := by
        have h1 := HRS.out
        rw [List.take_of_length_le (by rw [cl_len, HN.out]; omega)] at h1
        exact h1.fin
      have hb1 : -9000000000 ≤ b' ∧ b' ≤ 10000000000 - 16777216 := by
        have h1 := HFN.out.ge
        rcases HFN.out.at_ with e | ⟨f, hf, e⟩
        · omega
        · have := GD2.out f hf
          unfold FB2 FB at this
          unfold Flo.bot at e
          omega
      go_wp2_with fail
      refine (HCE.out _ _ b' HBL.out rfl (by omega) (by omega)).mono ?_; rintro e w' ⟨l, r, s, rfl, hbl, HL, HRr, hfi, l1, l2, r1, r2⟩
      have HBL2 := Lib.hid (bl_trans HBL.out hbl)
      clear hbl hfi
      go_wp2_with fail
      go_ret3
      exact ⟨⟨b', by rw [← HL.out, ← HRr.out]; rfl, HFN.out⟩, HBL2.out⟩
end Go.Proofs.Ytnjckpgacbibhaa
