/- seat C: one step of sharing -/
import Derived.Test.YtdpnpjficcciiaaCd
import Derived.Test.YtdpnpjficcciiaaShb
namespace Go.Proofs.Ytdpnpjficcciiaa
set_option linter.unusedVariables false
set_option linter.unusedSimpArgs false
open Go.RowKit Go.Cas

def StpRet (w : World) (B R g1 g2 : Nat) (A : Option Addr) (c n : Nat) (L : List FI) (sz : List Int) (st : List Bool) (gr : Bool) (room : Int) (P : Stp) (e : Ending) (w' : World) : Prop :=
  ∃ v : Bool, e = .returned (.bool v) ∧ (opn st n = [] → v = false ∧ SSt w B R g1 g2 A c n L sz st gr room w') ∧ (opn st n ≠ [] → v = true ∧ SSt w B R g1 g2 A c n L (P.szT P.m) (P.stT P.m) gr room w')
theorem facs_bd {L : List FI} (hf : ∀ x ∈ L, FB x) (gr : Bool) (st : List Bool) (k : Nat) : 0 ≤ facs gr L st k ∧ facs gr L st k ≤ 1000000000 * k := by
  have := sumTo_bd (f := fun i => if stA st i = true then 0 else fcI gr (itA L i)) (lo := 0) (hi := 1000000000) (n := k) (fun i _ => by
    have := fcI_bd (itA_fb hf i) gr
    split <;> omega) k (Nat.le_refl _)
  unfold facs
  omega
theorem freeF_bd {L : List FI} {sz : List Int} {st : List Bool} {n : Nat} {room : Int} (hv : ∀ i, i < n → 0 ≤ valI L sz st i ∧ valI L sz st i ≤ 16777216) (hr : -100000000000 ≤ room ∧ room ≤ 100000000000) (hn : n ≤ 200) : -103355443200 ≤ freeF L sz st room n ∧ freeF L sz st room n ≤ 100000000000 := by
  have := sumTo_bd hv n (Nat.le_refl _)
  unfold freeF
  omega
theorem tdiv_bd {x : Int} (h : -100000000000000 ≤ x ∧ x ≤ 100000000000000) : -100000000000 ≤ x.tdiv 1000 ∧ x.tdiv 1000 ≤ 100000000000 := by
  rw [Int.tdiv_eq_ediv]
  have : Int.sign 1000 = 1 := by decide
  rw [this]
  split <;> omega
theorem aF_bd {start fr fc : Int} (hs : -100000000000 ≤ start ∧ start ≤ 100000000000) (hf : -103355443200 ≤ fr ∧ fr ≤ 100000000000) (h0 : 0 ≤ fc) : -103355443200 ≤ aF start fr fc ∧ aF start fr fc ≤ 103355443200 := by
  unfold aF
  split
  · rename_i h
    omega
  · omega
theorem mul_bd {s f : Int} (hs : -100000000000 ≤ s ∧ s ≤ 100000000000) (h0 : 0 ≤ f) (h1 : f < 1000) : -100000000000000 ≤ s * f ∧ s * f ≤ 100000000000000 := by
  have a := Int.mul_le_mul_of_nonneg_right hs.1 h0
  have b := Int.mul_le_mul_of_nonneg_right hs.2 h0
  omega
theorem own_far {w : World} {B n m cap g R size : Nat} {e : TypeId} {xs : List Value} (h : w.ownsRow B e size (.slice (some ⟨g, 0, none⟩) n cap) m xs) (hR : R ≠ g) (o : Nat) (u : Value) : (w.setCell ⟨R, o, none⟩ u).ownsRow B e size (.slice (some ⟨g, 0, none⟩) n cap) m xs :=
  (Kept.set_ (ex := fun a => a = R) (Kept.refl _ _) R o (fun _ => rfl) u).own h (fun a ha e => by
    have e3 : g = a := by simpa [Value.ownBlock] using ha
    exact hR (e3.trans e).symm)
section
variable {P : Program} {ops : Array Oper} {w : World} {Q : Act → Prop} {a : Act} {o : Oper} {rest : List Oper}
theorem wpStill_want (hw : Region.wanted o (yielded ops a.tmps) = true) (h : ∀ K : Act → Prop, (∀ a, wpStill P ops w Q rest a → K a) → o.still P a w K) : wpStill P ops w Q (o :: rest) a :=
  wpStill_step fun K hK => by rw [if_pos hw]; exact h K hK
theorem wpStill_skip (hw : Region.wanted o (yielded ops a.tmps) = false) (h : wpStill P ops w Q rest (a.put o.dst undef)) : wpStill P ops w Q (o :: rest) a :=
  wpStill_step fun K hK => by rw [if_neg (by rw [hw]; exact Bool.false_ne_true)]; exact hK _ h
end
theorem still_of_quiet {P : Program} {w : World} {o : Oper} {a : Act} {K : Act → Prop} (h : o.quiet P a (fun x => x = w) K) : o.still P a w K := by
  obtain ⟨v, hv, hk⟩ := h
  have h := hv w rfl
  unfold Oper.quietAt at h
  unfold Oper.still
  generalize (execOp a.eval o).run P w = r at h
  cases r with
  | ok n w' =>
    cases n with
    | value u => simp only [Oper.quietUpon] at h; obtain ⟨rfl, rfl⟩ := h; exact ⟨rfl, hk⟩
    | skip => simp only [Oper.quietUpon] at h; obtain ⟨rfl, rfl⟩ := h; exact ⟨rfl, hk⟩
    | enter f args => simp only [Oper.quietUpon] at h; exact ⟨h.1, v, h.2, hk⟩
    | _ => simp only [Oper.quietUpon] at h
  | halt x w' => simp only [Oper.quietUpon] at h
theorem quiet_of_still {P : Program} {w : World} {o : Oper} {a : Act} {K : Act → Prop} (h : o.still P a w K) : o.quiet P a (fun x => x = w) K := by
  unfold Oper.still at h
  unfold Oper.quiet Oper.quietAt
  generalize hr : (execOp a.eval o).run P w = r at h
  cases r with
  | ok n w' =>
    cases n with
    | value u => simp only [Oper.stillUpon] at h; obtain ⟨rfl, hk⟩ := h; exact ⟨u, fun x hx => by subst hx; rw [hr]; exact ⟨rfl, rfl⟩, hk⟩
    | skip => simp only [Oper.stillUpon] at h; obtain ⟨rfl, hk⟩ := h; exact ⟨undef, fun x hx => by subst hx; rw [hr]; exact ⟨rfl, rfl⟩, hk⟩
    | enter f args => simp only [Oper.stillUpon] at h; obtain ⟨rfl, v, hc, hk⟩ := h; exact ⟨v, fun x hx => by subst hx; rw [hr]; exact ⟨rfl, hc⟩, hk⟩
    | _ => simp only [Oper.stillUpon] at h
  | halt x w' => simp only [Oper.stillUpon] at h
theorem wpStill_of_quiet {P : Program} {ops : Array Oper} {w : World} {Q : Act → Prop} {l : List Oper} : ∀ {a : Act}, wpQuiet P ops (fun x => x = w) Q l a → wpStill P ops w Q l a := by
  induction l with
  | nil => intro a h; exact h
  | cons o rest ih =>
    intro a h
    unfold wpQuiet at h
    unfold wpStill
    split
    · rename_i hw; rw [if_pos hw] at h; exact Oper.still_mono (fun a h => ih h) (still_of_quiet h)
    · rename_i hw; rw [if_neg hw] at h; exact ih h
theorem bys_succ (gr : Bool) (L : List FI) (st : List Bool) (k : Nat) : bys gr L st (k + 1) = if stA st k = true then bys gr L st k else bys gr L st k ++ [wtI gr (itA L k)] := by
  unfold bys
  rw [opn_succ]
  split <;> simp
theorem facs_succ (gr : Bool) (L : List FI) (st : List Bool) (k : Nat) : facs gr L st (k + 1) = facs gr L st k + (if stA st k = true then 0 else fcI gr (itA L k)) := rfl

set_option maxRecDepth 100000 in
set_option maxHeartbeats 16000000 in
theorem c_step {w wq : World} {B R g1 g2 c n : Nat} {A : Option Addr} {L : List FI} {sz : List Int} {st : List Bool} {gr : Bool} {room : Int} (h : SSt w B R g1 g2 A c n L sz st gr room wq) (hn : n ≤ 200) (hg : Go.Cas.Good n sz st) (hroom : -100000000000 ≤ room ∧ room ≤ 100000000000) (start : Int) (hstart : -100000000000 ≤ start ∧ start ≤ 100000000000) :
    Calls Try.prog 20 #[.pointer (some ⟨R, 0, none⟩), .int .i64 start] wq (StpRet w B R g1 g2 A c n L sz st gr room ⟨L, gr, n, sz, st, aF start (freeF L sz st room n) (facs gr L st n)⟩) := by
  have H := Lib.hid h
  have HG := Lib.hid hg
  have HFB := Lib.hid h.fb
  obtain ⟨h0, h1, h2, h3, h4⟩ := h.heads
  have HB0 := Lib.hid (Below.refl wq.heap.size wq)
  obtain ⟨Q, hQ⟩ : ∃ Q, Q = wq.heap.size := ⟨_, rfl⟩
  have HQ := Lib.hid hQ
  rw [← hQ] at HB0
  clear h hg hQ
  go_enter Try.func20, Try.ntmps20
  go_wp2_with fail
  clear h0 h1 h2 h3 h4
  go_loopw [5, 6, 7, 26] (fun op by_ fc i w2 => ∃ (k : Nat), k ≤ n ∧ i = .int .i64 k ∧ fc = .int .i64 (facs gr L st k) ∧ Hid (w2.ownsRow Q 3 1 op (opn st k).length ((opn st k).map fun (i : Nat) => Value.int .i64 (i : Int))) ∧ Hid (w2.ownsRow Q 3 1 by_ (opn st k).length ((bys gr L st k).map (Value.int .i64))) ∧ Hid (Sep op by_) ∧ Hid (Below Q wq w2)) (fun _ _ _ i _ => n - (intOf i).toNat)
  case atStart => exact ⟨0, by omega, rfl, rfl, World.ownsRow_nil _ _ _ _, World.ownsRow_nil _ _ _ _, Sep.none_l _, HB0.out⟩
  case round =>
    obtain ⟨k, hk, rfl, rfl, HO1, HO2, HSP, HB⟩ := hrel
    by_cases hlt : k < n
    · skip
      as_aux_lemma =>
        have hik : (k : Int) < (n : Int) := by omega
        have hs := H.out.below (by rw [← HQ.out]; exact HB.out)
        obtain ⟨g, o, eA, hg, hc⟩ := hs.item hlt
        subst eA
        have hA := hs.alloc (.cells #[.int .i64 (itA L k).b, .int .i64 (itA L k).mn, .int .i64 (itA L k).mx, .int .i64 (itA L k).ar, .int .i64 (itA L k).g, .int .i64 (itA L k).s] 26)
        have HCF := Lib.hid (c_factor hA hn k hlt)
        obtain ⟨d0, d1, d2, d3, d4, d5⟩ := hc _ (Below.refl _ _)
        obtain ⟨h0, h1, h2, h3, h4⟩ := hs.heads
        obtain ⟨a0, a1, a2, a3, a4⟩ := hA.heads
        have z2 := hs.cS hlt; have z3 := hA.cS hlt
        have hfc := facs_bd HFB.out gr st k
        have hfi := fcI_bd (itA_fb HFB.out k) gr
        have hwi := wtI_bd (itA_fb HFB.out k) gr
        have HFS := Lib.hid (facs_succ gr L st k); have HOS := Lib.hid (opn_succ st k); have HBS := Lib.hid (bys_succ gr L st k)
        have HOL := opn_len st k
        have hQs : Q ≤ wr.heap.size := by have := HB.out.size; have := HQ.out; omega
        have HBA : Hid (Below Q wq (wr.alloc (.cells #[.int .i64 (itA L k).b, .int .i64 (itA L k).mn, .int .i64 (itA L k).mx, .int .i64 (itA L k).ar, .int .i64 (itA L k).g, .int .i64 (itA L k).s] 26))) := HB.out.alloc hQs _
        have HOA := Lib.hid (HO1.out.alloc (.cells #[.int .i64 (itA L k).b, .int .i64 (itA L k).mn, .int .i64 (itA L k).mx, .int .i64 (itA L k).ar, .int .i64 (itA L k).g, .int .i64 (itA L k).s] 26))
        have HPA := Lib.hid (HO2.out.alloc (.cells #[.int .i64 (itA L k).b, .int .i64 (itA L k).mn, .int .i64 (itA L k).mx, .int .i64 (itA L k).ar, .int .i64 (itA L k).g, .int .i64 (itA L k).s] 26))
        clear hs hA hc
        obtain ⟨x, hx⟩ : ∃ x, x = itA L k := ⟨_, rfl⟩
        have HFD : Hid (fcI gr x = if gr = true then x.g else x.s) := rfl
        have HWD : Hid (wtI gr x = if gr = true then x.g else x.s * x.b) := rfl
        rw [← hx] at d0 d1 d2 d3 d4 d5 HCF hfi hwi HBS HFS HBA HOA HPA a0 a1 a2 a3 a4 z3
        clear hx
        obtain ⟨F, hF⟩ : ∃ F, F = fcI gr x := ⟨_, rfl⟩
        obtain ⟨WT, hWT⟩ : ∃ WT, WT = wtI gr x := ⟨_, rfl⟩
        obtain ⟨FC, hFC⟩ : ∃ FC, FC = facs gr L st k := ⟨_, rfl⟩
        rw [← hF] at HCF hfi HFS HFD
        rw [← hWT] at hwi HBS HWD
        rw [← hFC] at hfc HFS ⊢
        clear hF hWT hFC
        obtain ⟨xb, xmn, xmx, xar, xg, xs⟩ := x
        simp only at d0 d1 d2 d3 d4 d5 HFD HWD
        have v1 : IntKind.i64.wrap (FC + F) = FC + F := IntWalk.i64_in _ (by omega)
        cases hst : stA st k
        · rw [hst] at HFS HOS HBS z2 z3
          clear hst
          obtain ⟨W0, hW0⟩ : ∃ W0, W0 = wr.alloc (.cells #[.int .i64 xb, .int .i64 xmn, .int .i64 xmx, .int .i64 xar, .int .i64 xg, .int .i64 xs] 26) := ⟨_, rfl⟩
          have HX : Hid (Bk W0 wr.heap.size 26 #[.int .i64 xb, .int .i64 xmn, .int .i64 xmx, .int .i64 xar, .int .i64 xg, .int .i64 xs]) := by rw [hW0]; exact Bk.new _ _ _
          go_wp2_with fail
          rw [← hW0] at HCF HBA HOA HPA a0 a1 a2 a3 a4 z3 ⊢
          refine HCF.out.mono ?_
          rintro e w' ⟨rfl, rfl⟩
          have q1 := HX.out.cell; have q2 := HX.out.lt
          have hQ0 : Q ≤ W0.heap.size := by have := HBA.out.size; have := HQ.out; omega
          have hlen : (opn st k).length ≤ 200 := by omega
          have HNE : Hid (opn st (k + 1) = opn st k ++ [k]) := by have := HOS.out; unfold Hid; simpa using this
          have HNB : Hid (bys gr L st (k + 1) = bys gr L st k ++ [WT]) := by have := HBS.out; unfold Hid; simpa using this
          have HNF : Hid (facs gr L st (k + 1) = FC + F) := by have := HFS.out; unfold Hid; simpa using this
          clear hW0 d0 d1 d2 d3 d4 d5 h0 h1 h2 h3 h4 z2
          cases gr
          · have e1 : F = xs := HFD.out
            have e2 : WT = xs * xb := HWD.out
            have v2 : IntKind.i64.wrap (xs * xb) = WT := by rw [← e2]; exact IntWalk.i64_in _ (by omega)
            have HE2 := Lib.hid e2
            subst e1
            clear e2
            go_wp2_with (first
              | (at_builtin; refine wp_push rfl (.tmp 53) (.tmp 55) 27 rfl Q 3 Try.underlying27 inf_int rfl (by decide) W0 u5 (opn st k).length ((opn st k).map fun (i : Nat) => Value.int .i64 (i : Int)) [.int .i64 (k : Int)] rfl rfl rfl HOA.out rfl (by simp [Value.oneCell']) (by omega) (by omega) hQ0 ?_; intro v5 w5 hpush; have HPU := Lib.hid hpush; have hQ5 : Q ≤ w5.heap.size := Nat.le_trans hQ0 hpush.size_; have HP5 := Lib.hid (hpush.other HPA.out HSP.out); have HS5 := Lib.hid (hpush.sep HPA.out HSP.out); have HB5 := Lib.hid (hpush.below HBA.out (Nat.le_refl _) hQ0); clear hpush)
              | (at_builtin; refine wp_push rfl (.tmp 57) (.tmp 59) 27 rfl Q 3 Try.underlying27 inf_int rfl (by decide) w5 u6 (opn st k).length ((bys false L st k).map (Value.int .i64)) [.int .i64 WT] rfl rfl rfl HP5.out rfl (by simp [Value.oneCell']) (by omega) (by omega) hQ5 ?_; intro v6 w6 hpush; have HPV := Lib.hid hpush; have HP6 := Lib.hid (hpush.other HPU.out.own HS5.out.symm); have HS6 := Lib.hid (hpush.sep HPU.out.own HS5.out.symm); have HB6 := Lib.hid (hpush.below HB5.out (Nat.le_refl _) hQ5); clear hpush))
            go_roundw
            case rel =>
              refine ⟨k + 1, by omega, by go_num, by rw [HNF.out], ?_, ?_, HS6.out.symm, HB6.out⟩
              · rw [HNE.out, List.length_append, List.map_append]; exact HP6.out
              · rw [HNE.out, HNB.out, List.length_append, List.map_append]; exact HPV.out.own
            case measure => simp [intOf]; omega
          · have e1 : F = xg := HFD.out
            have e2 : WT = xg := HWD.out
            subst e1
            subst e2
            go_wp2_with (first
              | (at_builtin; refine wp_push rfl (.tmp 53) (.tmp 55) 27 rfl Q 3 Try.underlying27 inf_int rfl (by decide) W0 u5 (opn st k).length ((opn st k).map fun (i : Nat) => Value.int .i64 (i : Int)) [.int .i64 (k : Int)] rfl rfl rfl HOA.out rfl (by simp [Value.oneCell']) (by omega) (by omega) hQ0 ?_; intro v5 w5 hpush; have HPU := Lib.hid hpush; have hQ5 : Q ≤ w5.heap.size := Nat.le_trans hQ0 hpush.size_; have HP5 := Lib.hid (hpush.other HPA.out HSP.out); have HS5 := Lib.hid (hpush.sep HPA.out HSP.out); have HB5 := Lib.hid (hpush.below HBA.out (Nat.le_refl _) hQ0); clear hpush)
              | (at_builtin; refine wp_push rfl (.tmp 57) (.tmp 59) 27 rfl Q 3 Try.underlying27 inf_int rfl (by decide) w5 u6 (opn st k).length ((bys true L st k).map (Value.int .i64)) [.int .i64 WT] rfl rfl rfl HP5.out rfl (by simp [Value.oneCell']) (by omega) (by omega) hQ5 ?_; intro v6 w6 hpush; have HPV := Lib.hid hpush; have HP6 := Lib.hid (hpush.other HPU.out.own HS5.out.symm); have HS6 := Lib.hid (hpush.sep HPU.out.own HS5.out.symm); have HB6 := Lib.hid (hpush.below HB5.out (Nat.le_refl _) hQ5); clear hpush))
            go_roundw
            case rel =>
              refine ⟨k + 1, by omega, by go_num, by rw [HNF.out], ?_, ?_, HS6.out.symm, HB6.out⟩
              · rw [HNE.out, List.length_append, List.map_append]; exact HP6.out
              · rw [HNE.out, HNB.out, List.length_append, List.map_append]; exact HPV.out.own
            case measure => simp [intOf]; omega
        · rw [hst] at HFS HOS HBS z2 z3
          clear hst
          have HNE : Hid (opn st (k + 1) = opn st k) := by have := HOS.out; unfold Hid; simpa using this
          have HNB : Hid (bys gr L st (k + 1) = bys gr L st k) := by have := HBS.out; unfold Hid; simpa using this
          have HNF : Hid (facs gr L st (k + 1) = FC) := by have := HFS.out; unfold Hid; simpa using this
          go_wp2_with fail
          go_roundw
          case rel => exact ⟨k + 1, by omega, by go_num, by rw [HNF.out], by rw [HNE.out]; exact HOA.out, by rw [HNE.out, HNB.out]; exact HPA.out, HSP.out, HBA.out⟩
          case measure => simp [intOf]; omega
    · obtain rfl : k = n := by omega
      have hik : ¬ (k : Int) < (k : Int) := by omega
      have HSt := Lib.hid (H.out.below (by rw [← HQ.out]; exact HB.out))
      have HR1 := Lib.hid (RdS.of_own HO1.out); have HR2 := Lib.hid (RdS.of_own HO2.out)
      obtain ⟨_, A1, c1, rfl, hc1, _⟩ := RdS.of_own HO1.out
      obtain ⟨_, A2, c2, rfl, hc2, _⟩ := RdS.of_own HO2.out
      have hml := opn_len st k
      obtain ⟨M, hM⟩ : ∃ M, M = (opn st k).length := ⟨_, rfl⟩
      have HMM := Lib.hid hM
      rw [← hM] at hc1 hc2 hml HR1 HR2 HO1 ⊢
      clear hM hlt
      by_cases hM0 : M = 0
      · have HN : Hid (opn st k = []) := List.eq_nil_of_length_eq_zero (by rw [← HMM.out]; exact hM0)
        subst hM0
        go_wp2_with fail
        go_ret
        exact ⟨false, rfl, fun _ => ⟨rfl, HSt.out⟩, fun h => absurd HN.out h⟩
      · have HN : Hid (opn st k ≠ []) := fun e => hM0 (by rw [HMM.out, e]; rfl)
        have hM1 : ((M : Int) == 0) = false := by simp; omega
        have hv := HG.out.val HFB.out HN.out
        have HFR := Lib.hid (c_free HSt.out hn hv hroom)
        have hfb := freeF_bd hv hroom hn
        have hfc := facs_bd HFB.out gr st k
        clear hv
        obtain ⟨FC, hFC⟩ : ∃ FC, FC = facs gr L st k := ⟨_, rfl⟩
        obtain ⟨FR, hFR⟩ : ∃ FR, FR = freeF L sz st room k := ⟨_, rfl⟩
        rw [← hFR] at hfb HFR ⊢
        rw [← hFC] at hfc ⊢
        have HFCE := Lib.hid hFC; have HFRE := Lib.hid hFR
        clear hFC hFR
        have ha := aF_bd hstart hfb hfc.1
        go_wp2_with fail
        refine HFR.out.mono ?_
        rintro e w3 ⟨rfl, hb3⟩
        have HS3 := Lib.hid (HSt.out.below hb3)
        have HO3 := Lib.hid ((Kept.of_below hb3 (fun _ => False)).own HO1.out (fun _ _ e => e))
        have HR3 := Lib.hid ((HR1.out.below hb3).mono hb3.size); have HR4 := Lib.hid ((HR2.out.below hb3).mono hb3.size)
        clear hb3
        go_upto_if 68 with fail
        obtain ⟨a, haE⟩ : ∃ a, a = aF start FR FC := ⟨_, rfl⟩
        have HAE := Lib.hid haE
        rw [← haE] at ha
        clear haE
        go_cut [11, 12] (fun s11 _ wx => s11 = .int .i64 a ∧ wx = w3)
        case first =>
          as_aux_lemma =>
            by_cases hfc1 : FC < 1000
            · have hX := mul_bd hstart hfc.1 hfc1
              obtain ⟨X, hXE⟩ : ∃ X, X = start * FC := ⟨_, rfl⟩
              rw [← hXE] at hX
              have v1 : wrap64 (start * FC) = X := by rw [hXE]; exact IntWalk.wrap64_in _ ⟨by rw [← hXE]; omega, by rw [← hXE]; omega⟩
              have htd := tdiv_bd hX
              have HT : Hid (aF start FR FC = if FC < 1000 ∧ max (X.tdiv 1000) (-(X.tdiv 1000)) < max FR (-FR) then X.tdiv 1000 else FR) := by unfold aF; rw [hXE]; rfl
              clear hXE
              have f1 := fold_max
              by_cases hlt : max (X.tdiv 1000) (-(X.tdiv 1000)) < max FR (-FR)
              · have HT2 : Hid (a = X.tdiv 1000) := by unfold Hid; rw [HAE.out, HT.out, if_pos ⟨hfc1, hlt⟩]
                go_wp2_with fail
                go_meet
                case rel => exact ⟨by rw [HT2.out], rfl⟩
              · have HT2 : Hid (a = FR) := by unfold Hid; rw [HAE.out, HT.out, if_neg (fun h => hlt h.2)]
                go_wp2_with fail
                go_meet
                case rel => exact ⟨by rw [HT2.out], rfl⟩
            · have HT2 : Hid (a = FR) := by unfold Hid; rw [HAE.out]; unfold aF; rw [if_neg (fun h => hfc1 h.1)]
              go_wp2_with fail
              go_meet
              case rel => exact ⟨by rw [HT2.out], rfl⟩
        case rest =>
          obtain ⟨rfl, rfl⟩ := hcut
          obtain ⟨go, cap1, huo, hQo, hgo⟩ := HO3.out.form (by omega)
          injection huo with huA _ huc
          subst huA huc
          obtain ⟨P, hP⟩ : ∃ P : Stp, P = ⟨L, gr, k, sz, st, a⟩ := ⟨_, rfl⟩
          have HPm : Hid (P.m = M) := by rw [hP]; exact HMM.out.symm
          have HPfb : Hid (∀ x ∈ P.L, FB x) := by rw [hP]; exact HFB.out
          have HPby : Hid (P.by_ = bys gr L st k) := by rw [hP]; rfl
          have HPsz : Hid (P.szT 0 = sz) := by rw [hP]; rfl
          have HPst : Hid (P.stT 0 = st) := by rw [hP]; rfl
          have HPnn : Hid (∀ j, P.nn j = (itA L (oA st k j)).b + P.d j) := fun j => by rw [hP]; rfl
          have HPzz : Hid (∀ j, P.zz j = bnd (itA L (oA st k j)) (P.nn j)) := fun j => by rw [hP]; rfl
          have HPs1 : Hid (∀ j, P.szT (j + 1) = (P.szT j).set (oA st k j) (P.zz j)) := fun j => by rw [hP]; rfl
          have HPs2 : Hid (∀ j, P.stT (j + 1) = (P.stT j).set (oA st k j) (nwB P.gain (P.mo j))) := fun j => by rw [hP]; rfl
          have HPsl : Hid (P.sz.length = k) := by rw [hP]; exact HS3.out.lenz
          have HPa : Hid (P.a = a) := by rw [hP]; rfl
          have HPo : Hid (∀ j, j < M → oA st k j < k) := fun j hj => (oA_lt (by rw [← HMM.out]; exact hj)).1
          have HPd : Hid (P.d = shrD a (bys gr L st k)) := by rw [hP]; rfl
          have HPE := Lib.hid hP
          clear hP
          have hbyb : ∀ x ∈ bys gr L st k, 0 ≤ x ∧ x ≤ 16777216000000000 := by rw [← HPby.out]; exact P.by_pos HPfb.out
          have HBYB := Lib.hid hbyb
          clear hbyb
          obtain ⟨w4, hm4, HM4⟩ := make_I wc M (by omega)
          obtain ⟨gm, hgm⟩ : ∃ gm, gm = wc.heap.size := ⟨_, rfl⟩
          rw [← hgm] at hm4
          have HGM := Lib.hid hgm
          have HS4 : Hid (SSt w B R g1 g2 A c k L sz st gr room w4) := by rw [HM4.out]; exact HS3.out.alloc _
          have HO4 : Hid (w4.ownsRow Q 3 1 (.slice (some ⟨go, 0, none⟩) M c1) M ((opn st k).map fun (i : Nat) => Value.int .i64 (i : Int))) := by rw [HM4.out]; exact HO3.out.alloc _
          have HK4 : Hid (Bk w4 gm 3 (rowV M (fun _ => .int .i64 0))) := by rw [HM4.out]; exact bk_new' _ _ _ hgm
          have HR5 : Hid (RdS w4 gm 1 (.slice A2 M c2) M ((bys gr L st k).map (Value.int .i64))) := by rw [HM4.out, hgm]; exact HR4.out.below (bl_alloc (Below.refl _ _) _)
          have hgm4 : gm < w4.heap.size := HK4.out.lt
          have hgo4 : go < gm := by rw [hgm]; exact hgo
          have hg1 : g1 < Q := by rw [HQ.out]; exact H.out.lt1
          have hg2 : g2 < Q := by rw [HQ.out]; exact H.out.lt2
          have hRQ : R < Q := by rw [HQ.out]; exact H.out.ltR
          clear hgm hgo
          go_wp2_with fail
          clear hm4
          refine (c_shared a _ (bys gr L st k) gm M w4 HR5.out (Nat.le_of_lt hgm4) (by omega) HBYB.out (by omega)).mono ?_
          rintro e w5 ⟨gd, rfl, hgd, hkd, hb5⟩
          have HS5 := Lib.hid (HS4.out.below hb5)
          have HO5 : Hid (w5.ownsRow Q 3 1 (.slice (some ⟨go, 0, none⟩) M c1) M ((opn st k).map fun (i : Nat) => Value.int .i64 (i : Int))) := (Kept.of_below hb5 (fun _ => False)).own HO4.out (fun _ _ e => e)
          have HK5 := Lib.hid (HK4.out.below hb5 hgm4)
          have HD5 : Hid (Bk w5 gd 3 (rowV M (fun j => .int .i64 (P.d j)))) := by rw [HPd.out]; exact hkd
          have hgd5 : gm < gd := Nat.lt_of_lt_of_le hgm4 hgd
          clear hgd hkd hb5
          go_wp2_with fail
          go_loopw [13, 90] (fun ga i wr => ∃ (j : Nat), j ≤ M ∧ i = .int .i64 j ∧ ga = .int .i64 (sumTo P.mo j) ∧ Hid (SSt w B R g1 g2 A c k L (P.szT j) st gr room wr) ∧ Hid (wr.ownsRow Q 3 1 (.slice (some ⟨go, 0, none⟩) M c1) M ((opn st k).map fun (i : Nat) => Value.int .i64 (i : Int))) ∧ Hid (Bk wr gm 3 (rowV M (fun q => if q < j then .int .i64 (P.mo q) else .int .i64 0))) ∧ Hid (Bk wr gd 3 (rowV M (fun j => .int .i64 (P.d j))))) (fun _ i _ => M - (intOf i).toNat)
          case atStart => exact ⟨0, by omega, rfl, rfl, by rw [HPsz.out]; exact HS5.out, HO5.out, by simpa [Hid] using HK5.out, HD5.out⟩
          case round =>
            obtain ⟨j, hj, rfl, rfl, HSj, HOj, HKj, HDj⟩ := hrel
            by_cases hjM : j < M
            · skip
              as_aux_lemma =>
                have hik2 : (j : Int) < (M : Int) := by omega
                have hoj := HPo.out j hjM
                have hoji : ((oA st k j : Nat) : Int) < (k : Int) := by omega
                obtain ⟨w6, hw6⟩ : ∃ w6, w6 = wr.drew := ⟨_, rfl⟩
                have HS6 : Hid (SSt w B R g1 g2 A c k L (P.szT j) st gr room w6) := by rw [hw6]; exact HSj.out.drew
                have HO6 : Hid (w6.ownsRow Q 3 1 (.slice (some ⟨go, 0, none⟩) M c1) M ((opn st k).map fun (i : Nat) => Value.int .i64 (i : Int))) := by rw [hw6]; exact HOj.out.drew
                have HK6 : Hid (Bk w6 gm 3 (rowV M (fun q => if q < j then .int .i64 (P.mo q) else .int .i64 0))) := by rw [hw6]; exact Bk.drew HKj.out
                have HD6 : Hid (Bk w6 gd 3 (rowV M (fun j => .int .i64 (P.d j)))) := by rw [hw6]; exact Bk.drew HDj.out
                have cD : wr.cell? ⟨gd, j, none⟩ = some (.int .i64 (P.d j)) := by rw [HDj.out.cell, rowV_get _ _ _ hjM]
                have hOjl : (opn st k)[j]? = some (oA st k j) := opn_get (by rw [← HMM.out]; exact hjM)
                have cOf : Hid (∀ w' : World, w'.ownsRow Q 3 1 (.slice (some ⟨go, 0, none⟩) M c1) M ((opn st k).map fun (i : Nat) => Value.int .i64 (i : Int)) → w'.cell? ⟨go, j, none⟩ = some (.int .i64 ((oA st k j : Nat) : Int))) := fun w' ho => by
                  rw [ho.cellAt j (by simp; first | exact hjM | (rw [← HMM.out]; exact hjM)), List.getElem?_map, hOjl]; rfl
                clear hOjl
                have cO := cOf.out _ HO6.out
                obtain ⟨h0, h1, h2, h3, h4⟩ := HS6.out.heads
                have ⟨gi, oi, eA, hgi, hci⟩ := HS6.out.item hoj
                obtain ⟨k0, k1, k2, k3, k4⟩ := HSj.out.heads
                subst eA
                obtain ⟨d0, d1, d2, d3, d4, d5⟩ := hci _ (Below.refl _ _)
                have hnb := Stp.nn_bd HPfb.out (j := j) (by rw [HPm.out]; exact hjM)
                have hzb := Stp.zz_bd HPfb.out (j := j) (by rw [HPm.out]; exact hjM)
                have hdb := Stp.d_bd HPfb.out (j := j) (by rw [HPm.out]; exact hjM)
                have hmb := Stp.mo_bd HPfb.out (j := j) (by rw [HPm.out]; exact hjM)
                rw [HPa.out] at hnb hzb hdb hmb
                have hbb := (itA_fb HFB.out (oA st k j)).b
                have HNN := Lib.hid (HPnn.out j)
                have HMO : Hid (P.mo j = P.zz j - P.nn j) := rfl
                have hsm := sumTo_bd (f := P.mo) (lo := -250000000000) (hi := 250000000000) (n := M) (fun i hi => by have := Stp.mo_bd HPfb.out (j := i) (by rw [HPm.out]; exact hi); rw [HPa.out] at this; omega) j (by omega)
                have HCB : Hid (∀ W, Calls Try.prog 17 #[agF (itA L (oA st k j)), .int .i64 (P.nn j)] W fun e w' => e = .returned (.int .i64 (P.zz j)) ∧ Below W.heap.size W w') := fun W => by rw [HPzz.out j]; exact c_bounded _ _ W
                have HSN := Lib.hid (HPs1.out j)
                have HCI := Lib.hid hci
                obtain ⟨x, hx⟩ : ∃ x, x = itA L (oA st k j) := ⟨_, rfl⟩
                rw [← hx] at d0 d1 d2 d3 d4 d5 HCB HNN hbb
                obtain ⟨OJ, hOJ⟩ : ∃ OJ, OJ = oA st k j := ⟨_, rfl⟩
                rw [← hOJ] at d0 d1 d2 d3 d4 d5 cO hoj hoji HSN cOf
                obtain ⟨NN, hNNe⟩ : ∃ NN, NN = P.nn j := ⟨_, rfl⟩
                obtain ⟨ZZ, hZZe⟩ : ∃ ZZ, ZZ = P.zz j := ⟨_, rfl⟩
                obtain ⟨DD, hDDe⟩ : ∃ DD, DD = P.d j := ⟨_, rfl⟩
                obtain ⟨MO, hMOe⟩ : ∃ MO, MO = P.mo j := ⟨_, rfl⟩
                rw [← hNNe] at hnb HCB HMO HNN
                rw [← hZZe] at hzb HCB HMO HSN
                rw [← hDDe] at hdb HNN cD
                rw [← hMOe] at hmb HMO
                have HMOE := Lib.hid hMOe
                clear hci hx hOJ hNNe hZZe hDDe hMOe
                obtain ⟨xb, xmn, xmx, xar, xg, xs⟩ := x
                simp only at d0 d1 d2 d3 d4 d5 hbb HNN
                have F6 : Hid (∀ w', SSt w B R g1 g2 (some ⟨gi, oi, none⟩) c k L (P.szT j) st gr room w' → w'.ownsRow Q 3 1 (.slice (some ⟨go, 0, none⟩) M c1) M ((opn st k).map fun (i : Nat) => Value.int .i64 (i : Int)) → Below R w6 w' → (w'.cell? ⟨R, 0, none⟩ = some (.slice (some ⟨gi, oi, none⟩) k c) ∧ w'.cell? ⟨go, j, none⟩ = some (.int .i64 (OJ : Int)) ∧ w'.cell? ⟨gi, oi + OJ * 6, none⟩ = some (.int .i64 xb) ∧ w'.cell? ⟨gi, oi + OJ * 6 + 1, none⟩ = some (.int .i64 xmn) ∧ w'.cell? ⟨gi, oi + OJ * 6 + 2, none⟩ = some (.int .i64 xmx) ∧ w'.cell? ⟨gi, oi + OJ * 6 + 3, none⟩ = some (.int .i64 xar) ∧ w'.cell? ⟨gi, oi + OJ * 6 + 4, none⟩ = some (.int .i64 xg) ∧ w'.cell? ⟨gi, oi + OJ * 6 + 5, none⟩ = some (.int .i64 xs))) := fun w' a1 a2 a3 => by
                  have l := fun {q u} (e : w6.cell? ⟨gi, q, none⟩ = some u) => (a3.cell (p := ⟨gi, q, none⟩) hgi).trans e
                  exact ⟨a1.heads.1, cOf.out _ a2, l d0, l d1, l d2, l d3, l d4, l d5⟩
                have HB6 : Hid (Below R w6 wr) := by rw [hw6]; exact ⟨rfl, rfl, rfl, Nat.le_refl _, fun _ _ => rfl⟩
                have HB7 : Hid (Below R w6 wr.drew) := by rw [hw6]; exact Below.refl _ _
                have HB8 : Hid (∀ o, Below R w6 (wr.drew.alloc o)) := fun o => by rw [hw6]; exact (Below.refl _ _).alloc (Nat.le_of_lt HSj.out.drew.ltR) o
                have HW6 := Lib.hid hw6
                clear hw6 d0 d1 d2 d3 d4 d5 h0 h1 h2 h3 h4 cO k0 k1 k2 k3 k4
                go_wp2_with fail
                go_region_held3 (fun w' => w'.cell? ⟨R, 0, none⟩ = some (.slice (some ⟨gi, oi, none⟩) k c) ∧ w'.cell? ⟨go, j, none⟩ = some (.int .i64 (OJ : Int)) ∧ w'.cell? ⟨gi, oi + OJ * 6, none⟩ = some (.int .i64 xb) ∧ w'.cell? ⟨gi, oi + OJ * 6 + 1, none⟩ = some (.int .i64 xmn) ∧ w'.cell? ⟨gi, oi + OJ * 6 + 2, none⟩ = some (.int .i64 xmx) ∧ w'.cell? ⟨gi, oi + OJ * 6 + 3, none⟩ = some (.int .i64 xar) ∧ w'.cell? ⟨gi, oi + OJ * 6 + 4, none⟩ = some (.int .i64 xg) ∧ w'.cell? ⟨gi, oi + OJ * 6 + 5, none⟩ = some (.int .i64 xs))
                  (first | exact F6.out _ HSj.out HOj.out HB6.out | exact F6.out _ HSj.out.drew HOj.out.drew HB7.out | exact F6.out _ (HSj.out.drew.alloc _) (HOj.out.drew.alloc _) (HB8.out _)) (fail)
                have v1 : IntKind.i64.wrap (xb + DD) = NN := by rw [← HNN.out]; exact IntWalk.i64_in _ (by omega)
                obtain ⟨R2, hR2⟩ : ∃ R2, R2 = wr.heap.size := ⟨_, rfl⟩
                obtain ⟨w7, hw7⟩ : ∃ w7, w7 = (wr.alloc (.cells #[.int .i64 xb, .int .i64 xmn, .int .i64 xmx, .int .i64 xar, .int .i64 xg, .int .i64 xs] 26)).drew := ⟨_, rfl⟩
                have HS7 : Hid (SSt w B R g1 g2 (some ⟨gi, oi, none⟩) c k L (P.szT j) st gr room w7) := by rw [hw7]; exact (HSj.out.alloc _).drew
                have HO7 : Hid (w7.ownsRow Q 3 1 (.slice (some ⟨go, 0, none⟩) M c1) M ((opn st k).map fun (i : Nat) => Value.int .i64 (i : Int))) := by rw [hw7]; exact (HOj.out.alloc _).drew
                have HK7 : Hid (Bk w7 gm 3 (rowV M (fun q => if q < j then .int .i64 (P.mo q) else .int .i64 0))) := by rw [hw7]; exact Bk.drew (HKj.out.alloc _)
                have HD7 : Hid (Bk w7 gd 3 (rowV M (fun j => .int .i64 (P.d j)))) := by rw [hw7]; exact Bk.drew (HDj.out.alloc _)
                have HX7 : Hid (Bk w7 R2 26 #[.int .i64 xb, .int .i64 xmn, .int .i64 xmx, .int .i64 xar, .int .i64 xg, .int .i64 xs]) := by rw [hw7]; exact Bk.drew (bk_new' _ _ _ hR2)
                have hR2g : gd < R2 := by rw [hR2]; exact HDj.out.lt
                have HR2 := Lib.hid hR2; have HW7 := Lib.hid hw7
                clear hR2 hw7
                go_wp2_with fail
                rw [← HR2.out, ← HW7.out]
                clear cD v1
                have F7 : Hid (∀ w' Z, SSt w B R g1 g2 (some ⟨gi, oi, none⟩) c k L Z st gr room w' → w'.ownsRow Q 3 1 (.slice (some ⟨go, 0, none⟩) M c1) M ((opn st k).map fun (i : Nat) => Value.int .i64 (i : Int)) → Bk w' R2 26 #[.int .i64 xb, .int .i64 xmn, .int .i64 xmx, .int .i64 xar, .int .i64 xg, .int .i64 xs] → (w'.cell? ⟨R, 1, none⟩ = some (.slice (some ⟨g1, 0, none⟩) k k) ∧ w'.cell? ⟨go, j, none⟩ = some (.int .i64 (OJ : Int)) ∧ w'.cell? ⟨R2, 0, none⟩ = some (.int .i64 xb) ∧ w'.cell? ⟨R2, 1, none⟩ = some (.int .i64 xmn) ∧ w'.cell? ⟨R2, 2, none⟩ = some (.int .i64 xmx) ∧ w'.cell? ⟨R2, 3, none⟩ = some (.int .i64 xar) ∧ w'.cell? ⟨R2, 4, none⟩ = some (.int .i64 xg) ∧ w'.cell? ⟨R2, 5, none⟩ = some (.int .i64 xs))) := fun w' Z a1 a2 a3 => by
                  have e := a3.cell
                  exact ⟨a1.heads.2.1, cOf.out _ a2, by rw [e]; rfl, by rw [e]; rfl, by rw [e]; rfl, by rw [e]; rfl, by rw [e]; rfl, by rw [e]; rfl⟩
                go_region_held3 (fun w' => w'.cell? ⟨R, 1, none⟩ = some (.slice (some ⟨g1, 0, none⟩) k k) ∧ w'.cell? ⟨go, j, none⟩ = some (.int .i64 (OJ : Int)) ∧ w'.cell? ⟨R2, 0, none⟩ = some (.int .i64 xb) ∧ w'.cell? ⟨R2, 1, none⟩ = some (.int .i64 xmn) ∧ w'.cell? ⟨R2, 2, none⟩ = some (.int .i64 xmx) ∧ w'.cell? ⟨R2, 3, none⟩ = some (.int .i64 xar) ∧ w'.cell? ⟨R2, 4, none⟩ = some (.int .i64 xg) ∧ w'.cell? ⟨R2, 5, none⟩ = some (.int .i64 xs))
                  (first | exact F7.out _ _ HS7.out HO7.out HX7.out | exact F7.out _ _ HS7.out.drew HO7.out.drew (Bk.drew HX7.out) | exact F7.out _ _ HS8.out HO8.out HX8.out | exact F7.out _ _ HS9.out HO9.out HX9.out)
                  ((go_at_call 17; refine (HCB.out _).mono ?_; rintro e w8 ⟨rfl, hb8⟩; have HS8 := Lib.hid (HS7.out.drew.below hb8); have HO8 := Lib.hid ((Kept.of_below hb8 (fun _ => False)).own HO7.out.drew (fun _ _ e => e)); have HK8 := Lib.hid ((Bk.drew HK7.out).below hb8 HK7.out.lt); have HD8 := Lib.hid ((Bk.drew HD7.out).below hb8 HD7.out.lt); have HX8 := Lib.hid ((Bk.drew HX7.out).below hb8 HX7.out.lt); have cz := HS8.out.cZ hoj; have zf := HS8.out.size.free OJ; have HS9 := Lib.hid (HS8.out.setZ OJ ZZ); have HO9 := Lib.hid (own_far HO8.out (show g1 ≠ go by omega) OJ (.int .i64 ZZ)); have HX9 := Lib.hid (HX8.out.far (p := ⟨g1, OJ, none⟩) (show R2 ≠ g1 by omega) (.int .i64 ZZ)); have HK9 := Lib.hid (HK8.out.far (p := ⟨g1, OJ, none⟩) (show gm ≠ g1 by omega) (.int .i64 ZZ)); have HD9 := Lib.hid (HD8.out.far (p := ⟨g1, OJ, none⟩) (show gd ≠ g1 by omega) (.int .i64 ZZ)); clear hb8))
                obtain ⟨w9, hw9⟩ : ∃ w9, w9 = w8.setCell ⟨g1, OJ, none⟩ (.int .i64 ZZ) := ⟨_, rfl⟩
                rw [← hw9]
                rw [← hw9] at HS9 HO9 HK9 HD9
                clear hw9 cz zf
                obtain ⟨wA, hwA⟩ : ∃ wA, wA = w9.drew := ⟨_, rfl⟩
                have HSA : Hid (SSt w B R g1 g2 (some ⟨gi, oi, none⟩) c k L ((P.szT j).set OJ ZZ) st gr room wA) := by rw [hwA]; exact HS9.out.drew
                have HOA : Hid (wA.ownsRow Q 3 1 (.slice (some ⟨go, 0, none⟩) M c1) M ((opn st k).map fun (i : Nat) => Value.int .i64 (i : Int))) := by rw [hwA]; exact HO9.out.drew
                have HKA : Hid (Bk wA gm 3 (rowV M (fun q => if q < j then .int .i64 (P.mo q) else .int .i64 0))) := by rw [hwA]; exact Bk.drew HK9.out
                have HDA : Hid (Bk wA gd 3 (rowV M (fun j => .int .i64 (P.d j)))) := by rw [hwA]; exact Bk.drew HD9.out
                have cO := cOf.out _ HOA.out
                obtain ⟨h0, h1, h2, h3, h4⟩ := HSA.out.heads
                have cz : wA.cell? ⟨g1, OJ, none⟩ = some (.int .i64 ZZ) := by
                  rw [HSA.out.cZ hoj]
                  rw [szA_eq (List.getElem?_set_self (by rw [Stp.szT_len, HPsl.out]; exact hoj))]
                have cm : wA.cell? ⟨gm, j, none⟩ = some (.int .i64 0) := by rw [HKA.out.cell, rowV_get _ _ _ hjM]; simp
                have cmf := HKA.out.free j
                have v2 : IntKind.i64.wrap (ZZ - NN) = MO := by rw [← HMO.out]; exact IntWalk.i64_in _ (by omega)
                go_wp2_with fail
                refine wp_region_still_tail 15 (by kernel_rfl) (by kernel_rfl) ?_
                simp only [List.take_succ_cons, List.take_zero, List.drop_succ_cons, List.drop_zero]
                change wpStill _ _ (World.drew _) _ _ _
                rw [← hwA]
                have HWA := Lib.hid hwA
                clear hwA
                repeat still_step
                refine wpStill_nil ?_
                change wpList _ _ _ _ _ (World.drew _)
                rw [← HWA.out]
                go_wp2_with fail
                go_roundw
                case rel =>
                  have hgR : R < gm := by omega
                  refine ⟨j + 1, by omega, by go_num, by rw [HMOE.out]; rfl, ?_, own_far HOA.out (show gm ≠ go by omega) j _, ?_, HDA.out.far (p := ⟨gm, j, none⟩) (show gd ≠ gm by omega) _⟩
                  · rw [HSN.out]; exact HSA.out.far hgR (by omega) (by omega) j _
                  · have h1 := HKA.out.set_ j (.int .i64 (P.mo j))
                    rw [rowV_set, rowV_next M j (fun q => .int .i64 (P.mo q)) (.int .i64 0) _ (fun q _ => rfl)] at h1
                    rw [HMOE.out]
                    exact h1
                case measure => simp [intOf]; omega
            · obtain rfl : j = M := by omega
              have hik2 : ¬ (j : Int) < (j : Int) := by omega
              have HGA : Hid (sumTo P.mo j = P.gain) := by unfold Hid Stp.gain; rw [HPm.out]
              have HKM : Hid (Bk wr gm 3 (rowV j (fun q => .int .i64 (P.mo q)))) := by
                have e : rowV j (fun q => Value.int .i64 (P.mo q)) = rowV j (fun q => if q < j then .int .i64 (P.mo q) else .int .i64 0) := rowV_congr (fun q hq => by rw [if_pos hq])
                rw [e]; exact HKj.out
              rw [HGA.out]
              obtain ⟨G, hG⟩ : ∃ G, G = P.gain := ⟨_, rfl⟩
              rw [← hG]
              have HGE := Lib.hid hG
              clear hG
              go_wp2_with fail
              go_loopw [145] (fun i wr => ∃ (q : Nat), q ≤ j ∧ i = .int .i64 q ∧ Hid (SSt w B R g1 g2 A c k L (P.szT j) (P.stT q) gr room wr) ∧ Hid (wr.ownsRow Q 3 1 (.slice (some ⟨go, 0, none⟩) j c1) j ((opn st k).map fun (i : Nat) => Value.int .i64 (i : Int))) ∧ Hid (Bk wr gm 3 (rowV j (fun q => .int .i64 (P.mo q))))) (fun i _ => j - (intOf i).toNat)
              case atStart => exact ⟨0, by omega, rfl, by rw [HPst.out]; exact HSj.out, HOj.out, HKM.out⟩
              case round =>
                obtain ⟨q, hq, rfl, HSq, HOq, HKq⟩ := hrel
                by_cases hqj : q < j
                · skip
                  as_aux_lemma =>
                    have hik3 : (q : Int) < (j : Int) := by omega
                    have hoq := HPo.out q hqj
                    have hoqi : ((oA st k q : Nat) : Int) < (k : Int) := by omega
                    have hOql : (opn st k)[q]? = some (oA st k q) := opn_get (by rw [← HMM.out]; exact hqj)
                    have cO : wr.cell? ⟨go, q, none⟩ = some (.int .i64 ((oA st k q : Nat) : Int)) := by
                      rw [HOq.out.cellAt q (by simp; first | exact hqj | (rw [← HMM.out]; exact hqj)), List.getElem?_map, hOql]; rfl
                    have HSN := Lib.hid (HPs2.out q)
                    have cm : wr.cell? ⟨gm, q, none⟩ = some (.int .i64 (P.mo q)) := by rw [HKq.out.cell, rowV_get _ _ _ hqj]
                    obtain ⟨h0, h1, h2, h3, h4⟩ := HSq.out.heads
                    have cs := HSq.out.cS hoq
                    have csf := HSq.out.stt.free (oA st k q)
                    obtain ⟨OQ, hOQ⟩ : ∃ OQ, OQ = oA st k q := ⟨_, rfl⟩
                    rw [← hOQ] at cO cs csf hoq hoqi HSN
                    obtain ⟨MQ, hMQ⟩ : ∃ MQ, MQ = P.mo q := ⟨_, rfl⟩
                    rw [← hMQ] at cm HSN
                    rw [← HGE.out] at HSN
                    obtain ⟨so, hso⟩ : ∃ so, so = stA (P.stT q) OQ := ⟨_, rfl⟩
                    rw [← hso] at cs
                    clear hOQ hMQ hOql hso
                    have HNB : Hid (∀ b, decide (G = 0 ∨ (0 < G ∧ 0 < MQ) ∨ (G < 0 ∧ MQ < 0)) = b → nwB G MQ = b) := fun b h => h
                    by_cases hg0 : G = 0
                    · have HV := Lib.hid (HNB.out true (decide_eq_true (.inl hg0)))
                      subst hg0
                      go_wp2_with fail
                      go_region
                      all_goals
                        go_wp2_with fail
                        go_roundw
                        case rel => exact ⟨q + 1, by omega, by go_num, by rw [HSN.out, HV.out]; exact (HSq.out.setS OQ true).drew, (own_far HOq.out (show g2 ≠ go by omega) OQ _).drew, Bk.drew (HKq.out.far (p := ⟨g2, OQ, none⟩) (show gm ≠ g2 by omega) _)⟩
                        case measure => simp [intOf]; omega
                    · by_cases hgp : 0 < G
                      · have hgn : ¬ G < 0 := by omega
                        by_cases hmp : 0 < MQ
                        · have HV := Lib.hid (HNB.out true (decide_eq_true (.inr (.inl ⟨hgp, hmp⟩))))
                          have b1 : (G == 0) = false := by simpa using hg0
                          clear hg0
                          go_wp2_with fail
                          go_region
                          all_goals
                            go_wp2_with fail
                            go_roundw
                            case rel => exact ⟨q + 1, by omega, by go_num, by rw [HSN.out, HV.out]; exact (HSq.out.setS OQ true).drew, (own_far HOq.out (show g2 ≠ go by omega) OQ _).drew, Bk.drew (HKq.out.far (p := ⟨g2, OQ, none⟩) (show gm ≠ g2 by omega) _)⟩
                            case measure => simp [intOf]; omega
                        · have HV := Lib.hid (HNB.out false (decide_eq_false (fun h => by rcases h with h | h | h <;> omega)))
                          have b1 : (G == 0) = false := by simpa using hg0
                          clear hg0
                          have b3 : decide (0 < MQ) = false := decide_eq_false hmp
                          have b4 : decide (0 < G) = true := decide_eq_true hgp
                          have b5 : decide (G < 0) = false := decide_eq_false hgn
                          go_wp2_with fail
                          refine wp_region_still_tail 30 (by kernel_rfl) (by kernel_rfl) ?_
                          simp only [List.take_succ_cons, List.take_zero, List.drop_succ_cons, List.drop_zero]
                          change wpStill _ _ (World.drew _) _ _ _
                          obtain ⟨wA, hwA⟩ : ∃ wA, wA = wr.drew := ⟨_, rfl⟩
                          have HSA : Hid (SSt w B R g1 g2 A c k L (P.szT j) (P.stT q) gr room wA) := by rw [hwA]; exact HSq.out.drew
                          have HOA : Hid (wA.ownsRow Q 3 1 (.slice (some ⟨go, 0, none⟩) j c1) j ((opn st k).map fun (i : Nat) => Value.int .i64 (i : Int))) := by rw [hwA]; exact HOq.out.drew
                          have HKA : Hid (Bk wA gm 3 (rowV j (fun q => .int .i64 (P.mo q)))) := by rw [hwA]; exact Bk.drew HKq.out
                          have am : wA.cell? ⟨gm, q, none⟩ = some (.int .i64 MQ) := by rw [hwA]; exact cm
                          have a2 : wA.cell? ⟨R, 2, none⟩ = some (.slice (some ⟨g2, 0, none⟩) k k) := by rw [hwA]; exact h2
                          have as_ : wA.cell? ⟨g2, OQ, none⟩ = some (.bool so) := by rw [hwA]; exact cs
                          have af : wA.frozen? ⟨g2, OQ, none⟩ = false := by rw [hwA]; exact csf
                          rw [← hwA]
                          have HWA := Lib.hid hwA
                          clear hwA cm h0 h1 h2 h3 h4 cs csf cO
                          refine wpStill_of_quiet ?_
                          repeat (first | go_big_quiet_skip | (go_big_quiet_want; first | (go_big_quiet_op; go_big_quiet_on) | (refine quiet_of_still ?_; go_simp; go_big_quiet_on)))
                          refine wpQuiet_nil ?_
                          change wpList _ _ _ _ _ (World.drew _)
                          rw [← HWA.out]
                          go_wp2_with fail
                          go_roundw
                          case rel => exact ⟨q + 1, by omega, by go_num, by rw [HSN.out, HV.out]; exact HSA.out.setS OQ false, own_far HOA.out (show g2 ≠ go by omega) OQ _, HKA.out.far (p := ⟨g2, OQ, none⟩) (show gm ≠ g2 by omega) _⟩
                          case measure => simp [intOf]; omega
                      · have hgn : G < 0 := by omega
                        by_cases hmp : MQ < 0
                        · have HV := Lib.hid (HNB.out true (decide_eq_true (.inr (.inr ⟨hgn, hmp⟩))))
                          have b1 : (G == 0) = false := by simpa using hg0
                          clear hg0
                          have b3 : decide (MQ < 0) = true := decide_eq_true hmp
                          have b4 : decide (0 < G) = false := decide_eq_false hgp
                          have b5 : decide (G < 0) = true := decide_eq_true hgn
                          go_wp2_with fail
                          refine wp_region_still_tail 30 (by kernel_rfl) (by kernel_rfl) ?_
                          simp only [List.take_succ_cons, List.take_zero, List.drop_succ_cons, List.drop_zero]
                          change wpStill _ _ (World.drew _) _ _ _
                          obtain ⟨wA, hwA⟩ : ∃ wA, wA = wr.drew := ⟨_, rfl⟩
                          have HSA : Hid (SSt w B R g1 g2 A c k L (P.szT j) (P.stT q) gr room wA) := by rw [hwA]; exact HSq.out.drew
                          have HOA : Hid (wA.ownsRow Q 3 1 (.slice (some ⟨go, 0, none⟩) j c1) j ((opn st k).map fun (i : Nat) => Value.int .i64 (i : Int))) := by rw [hwA]; exact HOq.out.drew
                          have HKA : Hid (Bk wA gm 3 (rowV j (fun q => .int .i64 (P.mo q)))) := by rw [hwA]; exact Bk.drew HKq.out
                          have am : wA.cell? ⟨gm, q, none⟩ = some (.int .i64 MQ) := by rw [hwA]; exact cm
                          have a2 : wA.cell? ⟨R, 2, none⟩ = some (.slice (some ⟨g2, 0, none⟩) k k) := by rw [hwA]; exact h2
                          have as_ : wA.cell? ⟨g2, OQ, none⟩ = some (.bool so) := by rw [hwA]; exact cs
                          have af : wA.frozen? ⟨g2, OQ, none⟩ = false := by rw [hwA]; exact csf
                          rw [← hwA]
                          have HWA := Lib.hid hwA
                          clear hwA cm h0 h1 h2 h3 h4 cs csf cO
                          refine wpStill_of_quiet ?_
                          repeat (first | go_big_quiet_skip | (go_big_quiet_want; first | (go_big_quiet_op; go_big_quiet_on) | (refine quiet_of_still ?_; go_simp; go_big_quiet_on)))
                          refine wpQuiet_nil ?_
                          change wpList _ _ _ _ _ (World.drew _)
                          rw [← HWA.out]
                          go_wp2_with fail
                          go_roundw
                          case rel => exact ⟨q + 1, by omega, by go_num, by rw [HSN.out, HV.out]; exact HSA.out.setS OQ true, own_far HOA.out (show g2 ≠ go by omega) OQ _, HKA.out.far (p := ⟨g2, OQ, none⟩) (show gm ≠ g2 by omega) _⟩
                          case measure => simp [intOf]; omega
                        · have HV := Lib.hid (HNB.out false (decide_eq_false (fun h => by rcases h with h | h | h <;> omega)))
                          have b1 : (G == 0) = false := by simpa using hg0
                          clear hg0
                          have b3 : decide (MQ < 0) = false := decide_eq_false hmp
                          have b4 : decide (0 < G) = false := decide_eq_false hgp
                          have b5 : decide (G < 0) = true := decide_eq_true hgn
                          go_wp2_with fail
                          refine wp_region_still_tail 30 (by kernel_rfl) (by kernel_rfl) ?_
                          simp only [List.take_succ_cons, List.take_zero, List.drop_succ_cons, List.drop_zero]
                          change wpStill _ _ (World.drew _) _ _ _
                          obtain ⟨wA, hwA⟩ : ∃ wA, wA = wr.drew := ⟨_, rfl⟩
                          have HSA : Hid (SSt w B R g1 g2 A c k L (P.szT j) (P.stT q) gr room wA) := by rw [hwA]; exact HSq.out.drew
                          have HOA : Hid (wA.ownsRow Q 3 1 (.slice (some ⟨go, 0, none⟩) j c1) j ((opn st k).map fun (i : Nat) => Value.int .i64 (i : Int))) := by rw [hwA]; exact HOq.out.drew
                          have HKA : Hid (Bk wA gm 3 (rowV j (fun q => .int .i64 (P.mo q)))) := by rw [hwA]; exact Bk.drew HKq.out
                          have am : wA.cell? ⟨gm, q, none⟩ = some (.int .i64 MQ) := by rw [hwA]; exact cm
                          have a2 : wA.cell? ⟨R, 2, none⟩ = some (.slice (some ⟨g2, 0, none⟩) k k) := by rw [hwA]; exact h2
                          have as_ : wA.cell? ⟨g2, OQ, none⟩ = some (.bool so) := by rw [hwA]; exact cs
                          have af : wA.frozen? ⟨g2, OQ, none⟩ = false := by rw [hwA]; exact csf
                          rw [← hwA]
                          have HWA := Lib.hid hwA
                          clear hwA cm h0 h1 h2 h3 h4 cs csf cO
                          refine wpStill_of_quiet ?_
                          repeat (first | go_big_quiet_skip | (go_big_quiet_want; first | (go_big_quiet_op; go_big_quiet_on) | (refine quiet_of_still ?_; go_simp; go_big_quiet_on)))
                          refine wpQuiet_nil ?_
                          change wpList _ _ _ _ _ (World.drew _)
                          rw [← HWA.out]
                          go_wp2_with fail
                          go_roundw
                          case rel => exact ⟨q + 1, by omega, by go_num, by rw [HSN.out, HV.out]; exact HSA.out.setS OQ false, own_far HOA.out (show g2 ≠ go by omega) OQ _, HKA.out.far (p := ⟨g2, OQ, none⟩) (show gm ≠ g2 by omega) _⟩
                          case measure => simp [intOf]; omega
                · obtain rfl : q = j := by omega
                  have hik3 : ¬ (q : Int) < (q : Int) := by omega
                  go_wp2_with fail
                  go_ret
                  refine ⟨true, rfl, fun h => absurd h HN.out, fun _ => ⟨rfl, ?_⟩⟩
                  have h1 := HSq.out
                  have e1 := HPE.out
                  rw [HAE.out, HFCE.out, HFRE.out] at e1
                  rw [← e1, HPm.out]
                  exact h1
end Go.Proofs.Ytdpnpjficcciiaa
