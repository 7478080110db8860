/- the document's tree: what was is copied whole; keep -/
import Derived.Test.YtimlmekgapdkiaaGreatDoorUf
import Derived.Test.YtimlmekgapdkiaaGreatDoorbase
import Derived.Deep.RegionLaw
namespace Go.Proofs.YtimlmekgapdkiaaGreatDoor
set_option linter.unusedVariables false
set_option linter.unusedSimpArgs false
open Go.RowKit Go.Cas

theorem inf_rNode : (Tryz.prog.info? 46).map (fun i => (i.zero, i.size, i.bytes)) = some (some (.agg #[.int .i64 0, .string ByteArray.empty, .string ByteArray.empty, .slice none 0 0, .int .i64 0, .slice none 0 0]), 6, 96) := by kernel_rfl
/-- lists of nodes that are not too long -/
def Few (M : List NV) : Prop := ∀ y ∈ M, y.x.at_.length ≤ 1000000 ∧ y.x.ki.length ≤ 1000000
/-- nodes copied, each with rows of its own, in blocks from lo on, below hi; each block has a tag, as in RT -/
structure SnM (lo hi : Nat) (θ : Nat → Nat) (o : Value) (K : List NV) (w : World) : Prop where
  row : w.ownsRow lo 46 6 o K.length (K.flatMap nvc)
  at_ : ∀ (i : Nat) y, K[i]? = some y → w.ownsRow lo 79 2 y.va y.x.at_.length (atc y.x.at_)
  ki : ∀ (i : Nat) y, K[i]? = some y → w.ownsRow lo 3 1 y.vk y.x.ki.length (kic y.x.ki)
  tL : ∀ k, o.ownBlock = some k → θ k = 2
  tA : ∀ (i : Nat) y, K[i]? = some y → ∀ k, y.va.ownBlock = some k → θ k = 5 + i
  tK : ∀ (i : Nat) y, K[i]? = some y → ∀ k, y.vk.ownBlock = some k → θ k = 4
  tB : ∀ k, θ k ≠ 0 → lo ≤ k ∧ k < hi
  hw : hi ≤ w.heap.size
section
variable {lo hi hi' : Nat} {θ : Nat → Nat} {o : Value} {K : List NV} {w w' : World}
theorem SnM.nil (w : World) (lo : Nat) : SnM lo w.heap.size (fun _ => 0) (.slice none 0 0) [] w :=
  ⟨World.ownsRow_nil _ _ _ _, fun i y h => (by cases h), fun i y h => (by cases h), fun k h => (by cases h), fun i y h => (by cases h), fun i y h => (by cases h), fun k h => absurd rfl h, Nat.le_refl _⟩
theorem SnM.keep (h : SnM lo hi θ o K w) (hk : ∀ k, lo ≤ k → k < hi → w'.heap[k]? = w.heap[k]?) (hs : hi ≤ w'.heap.size) : SnM lo hi θ o K w' := by
  have key : ∀ k, θ k ≠ 0 → w'.heap[k]? = w.heap[k]? := fun k e => hk k (h.tB k e).1 (h.tB k e).2
  exact ⟨own_keep h.row (fun k e => key k (by rw [h.tL k e]; omega)), fun i y hy => own_keep (h.at_ i y hy) (fun k e => key k (by rw [h.tA i y hy k e]; omega)), fun i y hy => own_keep (h.ki i y hy) (fun k e => key k (by rw [h.tK i y hy k e]; omega)), h.tL, h.tA, h.tK, h.tB, hs⟩
theorem SnM.below (h : SnM lo hi θ o K w) (hb : Below w.heap.size w w') : SnM lo hi θ o K w' := h.keep (fun k _ h2 => hb.block k (Nat.lt_of_lt_of_le h2 h.hw)) (Nat.le_trans h.hw hb.size)
theorem SnM.push {w9 : World} {x : Nod} {va vk o' : Value} {k na nk : Nat} {la lk : List Value} {xk xp : Int} {xt xx : ByteArray} (h : SnM lo w.heap.size θ o K w) (hk : K.length = k) (hb : Below w.heap.size w w9) (hlo : lo ≤ w.heap.size)
    (ha : w9.ownsRow lo 79 2 va na la) (hi : w9.ownsRow lo 3 1 vk nk lk) (hna : na = x.at_.length) (hla : la = atc x.at_) (hnk : nk = x.ki.length) (hlk : lk = kic x.ki)
    (fa : ∀ q, va.ownBlock = some q → w.heap.size ≤ q) (fk : ∀ q, vk.ownBlock = some q → w.heap.size ≤ q) (fd : ∀ q, va.ownBlock = some q → vk.ownBlock ≠ some q)
    (e1 : xk = x.k) (e2 : xt = x.tag) (e3 : xx = x.txt) (e4 : xp = x.pa)
    (hp : Pushed w9 lo 46 6 o k (K.flatMap nvc) [.int .i64 xk, .string xt, .string xx, va, .int .i64 xp, vk] o' w') :
    SnM lo w'.heap.size (fun q => if vk.ownBlock = some q then 4 else if va.ownBlock = some q then 5 + k else if o'.ownBlock = some q then 2 else θ q) o' (K ++ [⟨x, va, vk⟩]) w' := by
  subst hk hna hla hnk hlk e1 e2 e3 e4
  have hs := hb.size
  have hs2 := hp.size_
  have olt : ∀ q, o.ownBlock = some q → q < w.heap.size := fun q e => (own_lt h.row e).2
  have old : ∀ q, q < w.heap.size → o.ownBlock ≠ some q → w'.heap[q]? = w.heap[q]? := fun q hq hn => (hp.grown.block q (by omega) (fun e => hn e.symm)).trans (hb.block q hq)
  have new : ∀ q, w.heap.size ≤ q → q < w9.heap.size → w'.heap[q]? = w9.heap[q]? := fun q h1 h2 => hp.grown.block q h2 (fun e => by have := olt q e.symm; omega)
  have no' : ∀ q, o'.ownBlock = some q → o.ownBlock = some q ∨ w9.heap.size ≤ q := fun q e => by
    rcases hp.at_ with e2 | ⟨z, hz, e2⟩
    · exact .inl (e2 ▸ e)
    · rw [e2] at e; injection e with e; exact .inr (by omega)
  have alt : ∀ q, va.ownBlock = some q → q < w9.heap.size := fun q e => (own_lt ha e).2
  have klt : ∀ q, vk.ownBlock = some q → q < w9.heap.size := fun q e => (own_lt hi e).2
  have tag : ∀ q, θ q ≠ 0 → θ q ≠ 2 → (if vk.ownBlock = some q then 4 else if va.ownBlock = some q then 5 + K.length else if o'.ownBlock = some q then 2 else θ q) = θ q := fun q h1 h2 => by
    have hq := (h.tB q h1).2
    rw [if_neg (fun e => by have := fk q e; omega), if_neg (fun e => by have := fa q e; omega), if_neg (fun e => ?_)]
    rcases no' q e with e | e
    · exact h2 (h.tL q e)
    · omega
  have kpt : ∀ q, θ q ≠ 0 → θ q ≠ 2 → w'.heap[q]? = w.heap[q]? := fun q h1 h2 => old q (h.tB q h1).2 (fun e => h2 (h.tL q e))
  have get : ∀ (i : Nat) y, (K ++ [(⟨x, va, vk⟩ : NV)])[i]? = some y → (i = K.length ∧ y = ⟨x, va, vk⟩) ∨ K[i]? = some y := fun i y hy => by
    by_cases hl : i < K.length
    · rw [List.getElem?_append_left hl] at hy; exact .inr hy
    · rw [List.getElem?_append_right (by omega)] at hy
      have : i - K.length = 0 := by
        have := (List.getElem?_eq_some_iff.1 hy).1
        simp at this; omega
      rw [this] at hy
      simp at hy
      exact .inl ⟨by omega, hy.symm⟩
  refine ⟨?_, fun i y hy => ?_, fun i y hy => ?_, fun q e => ?_, fun i y hy q e => ?_, fun i y hy q e => ?_, fun q e => ?_, Nat.le_refl _⟩
  · have := hp.own
    rw [List.length_append, List.flatMap_append]
    simpa [nvc] using this
  · rcases get i y hy with ⟨rfl, rfl⟩ | hy
    · exact own_keep ha (fun q e => new q (fa q e) (alt q e))
    · exact own_keep (h.at_ i y hy) (fun q e => kpt q (by rw [h.tA i y hy q e]; omega) (by rw [h.tA i y hy q e]; omega))
  · rcases get i y hy with ⟨rfl, rfl⟩ | hy
    · exact own_keep hi (fun q e => new q (fk q e) (klt q e))
    · exact own_keep (h.ki i y hy) (fun q e => kpt q (by rw [h.tK i y hy q e]; omega) (by rw [h.tK i y hy q e]; omega))
  · show (if vk.ownBlock = some q then 4 else if va.ownBlock = some q then 5 + K.length else if o'.ownBlock = some q then 2 else θ q) = 2
    have hq := no' q e
    rw [if_neg (fun e2 => ?_), if_neg (fun e2 => ?_), if_pos e]
    · rcases hq with e3 | e3
      · have := olt q e3; have := fa q e2; omega
      · have := alt q e2; omega
    · rcases hq with e3 | e3
      · have := olt q e3; have := fk q e2; omega
      · have := klt q e2; omega
  · show (if vk.ownBlock = some q then 4 else if va.ownBlock = some q then 5 + K.length else if o'.ownBlock = some q then 2 else θ q) = 5 + i
    rcases get i y hy with ⟨rfl, rfl⟩ | hy
    · rw [if_neg (fd q e), if_pos e]
    · have := h.tA i y hy q e
      rw [tag q (by omega) (by omega)]; exact this
  · show (if vk.ownBlock = some q then 4 else if va.ownBlock = some q then 5 + K.length else if o'.ownBlock = some q then 2 else θ q) = 4
    rcases get i y hy with ⟨rfl, rfl⟩ | hy
    · rw [if_pos e]
    · have := h.tK i y hy q e
      rw [tag q (by omega) (by omega)]; exact this
  · by_cases e1 : vk.ownBlock = some q
    · have := fk q e1; have := klt q e1; omega
    · by_cases e2 : va.ownBlock = some q
      · have := fa q e2; have := alt q e2; omega
      · by_cases e3 : o'.ownBlock = some q
        · have := own_lt hp.own e3; omega
        · have e : (if vk.ownBlock = some q then 4 else if va.ownBlock = some q then 5 + K.length else if o'.ownBlock = some q then 2 else θ q) ≠ 0 := e
          rw [if_neg e1, if_neg e2, if_neg e3] at e
          have := h.tB q e; omega
end
/-- a tree as it was, in blocks of its own -/
def Snp (lo hi : Nat) (v : Value) (T : List Nod) (w : World) : Prop := ∃ θ K, SnM lo hi θ v K w ∧ K.map NV.x = T
theorem Snp.keep {lo hi : Nat} {v : Value} {T : List Nod} {w w' : World} (h : Snp lo hi v T w) (hk : ∀ k, lo ≤ k → k < hi → w'.heap[k]? = w.heap[k]?) (hs : hi ≤ w'.heap.size) : Snp lo hi v T w' := by
  obtain ⟨θ, K, h1, h2⟩ := h
  exact ⟨θ, K, h1.keep hk hs, h2⟩
def CpRet (n : Nat) (T : List Nod) (w : World) (e : Ending) (w' : World) : Prop := ∃ A c, e = .returned (.slice A n c) ∧ Snp w.heap.size w'.heap.size (.slice A n c) T w' ∧ Below w.heap.size w w'
set_option maxRecDepth 100000 in
set_option maxHeartbeats 8000000 in
theorem c_rCopied {w : World} {B R L cap nT : Nat} {tv : Value} {xs : List Value} {τ : Nat → Nat} {M : List NV} (h : RT B R L cap nT tv xs τ M w) (hM : M.length ≤ 400) (hF : Few M) :
    Calls Tryz.prog 71 #[.slice (some ⟨L, 0, none⟩) M.length cap] w (CpRet M.length (M.map NV.x) w) := by
  have H := Lib.hid h
  have HF := Lib.hid hF
  clear h hF
  obtain ⟨n, hn⟩ : ∃ n, n = M.length := ⟨_, rfl⟩
  have HN := Lib.hid hn
  rw [← hn] at hM ⊢
  clear hn
  go_enter Tryz.func71, Tryz.ntmps71
  go_wp2_with fail
  go_loopw [3, 4] (fun o i wr => ∃ (k : Nat), k ≤ n ∧ i = .int .i64 k ∧ Hid (∃ θ K, SnM w.heap.size wr.heap.size θ o K wr ∧ K.map NV.x = (M.take k).map NV.x) ∧ Hid (Below w.heap.size w wr)) (fun _ i _ => n - (intOf i).toNat)
  case atStart => exact ⟨0, by omega, rfl, ⟨_, [], SnM.nil _ _, rfl⟩, Below.refl _ _⟩
  case round =>
    obtain ⟨k, hk, rfl, HO, HB⟩ := hrel
    by_cases hlt : k < n
    · have hik : (k : Int) < (n : Int) := by omega
      obtain ⟨θ, K, hsn, hkm⟩ := HO.out
      have HSN := Lib.hid hsn
      have HKM := Lib.hid hkm
      have hkl : K.length = k := by
        have := congrArg List.length hkm
        simp at this
        have h2 := HN.out
        omega
      have HKL := Lib.hid hkl
      obtain ⟨y, hy⟩ : ∃ y, M[k]? = some y := ⟨_, List.getElem?_eq_getElem (by have := HN.out; omega)⟩
      have h1 := H.out.below HB.out
      obtain ⟨⟨a0, a1, a2⟩, a3, a4, a5⟩ := h1.cell hy
      have hrL := h1.ltL
      have HYA := Lib.hid (RdS.of_own (h1.at_ k y hy))
      have HYK := Lib.hid ((h1.ki k y hy).toS (lim := wr.heap.size) (fun k hz => (h1.tB k (by rw [show τ k = 4 from hz]; omega)).2))
      have HFY := Lib.hid (HF.out y (List.mem_of_getElem? hy))
      obtain ⟨_, Aa, ca, hva, _, _⟩ := HYA.out
      obtain ⟨_, Ak, ck, hvk, _, _⟩ := HYK.out
      have hbz : w.heap.size ≤ wr.heap.size := HB.out.size
      have HZW : Hid (w.heap.size ≤ wr.heap.size) := hbz
      obtain ⟨xk, hxk⟩ : ∃ q, q = y.x.k := ⟨_, rfl⟩
      obtain ⟨xt, hxt⟩ : ∃ q, q = y.x.tag := ⟨_, rfl⟩
      obtain ⟨xx, hxx⟩ : ∃ q, q = y.x.txt := ⟨_, rfl⟩
      obtain ⟨xp, hxp⟩ : ∃ q, q = y.x.pa := ⟨_, rfl⟩
      obtain ⟨na, hna⟩ : ∃ q, q = y.x.at_.length := ⟨_, rfl⟩
      obtain ⟨nk, hnk⟩ : ∃ q, q = y.x.ki.length := ⟨_, rfl⟩
      obtain ⟨la, hla⟩ : ∃ q, q = atc y.x.at_ := ⟨_, rfl⟩
      obtain ⟨lk, hlk⟩ : ∃ q, q = kic y.x.ki := ⟨_, rfl⟩
      have HOA : Hid (∀ u ∈ la, u.oneCell' = true) := by rw [hla]; exact one_atc _
      have HOK : Hid (∀ u ∈ lk, u.oneCell' = true) := by rw [hlk]; exact one_kic _
      have hn1 : na ≤ 1000000 := by rw [hna]; exact HFY.out.1
      have hn2 : nk ≤ 1000000 := by rw [hnk]; exact HFY.out.2
      rw [hva] at a3 HYA
      rw [hvk] at a5 HYK
      rw [← hxk] at a0; rw [← hxt] at a1; rw [← hxx] at a2; rw [← hxp] at a4; rw [← hna] at a3; rw [← hnk] at a5
      rw [← hna, ← hla] at HYA
      rw [← hnk, ← hlk] at HYK
      have HXA := Lib.hid (And.intro hxk (And.intro hxt (And.intro hxx hxp)))
      have HXB := Lib.hid (And.intro hna (And.intro hla (And.intro hnk hlk)))
      have HGY := Lib.hid hy
      clear hsn hkm hkl hy h1 hva hvk hxk hxt hxx hxp hna hnk hla hlk HFY
      go_upto_region 6 with fail
      obtain ⟨b, hb⟩ : ∃ b, b = wr.heap.size := ⟨_, rfl⟩
      obtain ⟨w2, hw2⟩ : ∃ w2, w2 = wr.alloc (.cells #[.int .i64 xk, .string xt, .string xx, .slice Aa na ca, .int .i64 xp, .slice Ak nk ck] 46) := ⟨_, rfl⟩
      have hbk : Bk w2 b 46 #[.int .i64 xk, .string xt, .string xx, .slice Aa na ca, .int .i64 xp, .slice Ak nk ck] := by rw [hw2, hb]; exact Bk.new _ _ _
      have hbl : Below wr.heap.size wr w2 := by rw [hw2]; exact bl_alloc (Below.refl _ _) _
      rw [← hw2, ← hb]
      have HBK := Lib.hid hbk
      have HBL := Lib.hid hbl
      have HBE := Lib.hid hb
      have HB2L : Hid (b < w2.heap.size ∧ wr.heap.size ≤ b) := ⟨hbk.lt, by rw [hb]; exact Nat.le_refl _⟩
      have e3 := hbk.cell 3
      have f3 := hbk.free 3
      have lb := hbk.lt
      have hz2 : w.heap.size ≤ w2.heap.size := Nat.le_trans hbz hbl.size
      clear hw2 hb hbk hbl a0 a1 a2 a3 a4 a5
      go_upto_region 7 with (at_builtin; refine wp_spread rfl _ _ 37 rfl w.heap.size 79 Tryz.underlying37 inf_A rfl (by omega) (.slice none 0 0) 0 [] rfl (World.ownsRow_nil _ _ _ _) wr.heap.size (.slice Aa na ca) na la rfl (HYA.out.below HBL.out) HOA.out (by unfold maxLen; omega) (by omega) hz2 ?_; intro v6 w6 hown6 hgrow6 hat6; rw [Nat.zero_add, List.nil_append] at hown6; obtain ⟨_, A6, c6, rfl, _, _⟩ := RdS.of_own hown6; have HO6 := Lib.hid hown6; have HA6 : Hid (∀ q, (Value.slice A6 na c6).ownBlock = some q → q = w2.heap.size) := (fun q e => by rcases hat6 with e2 | e2; (· rw [e2] at e; cases e); (· rw [e2] at e; injection e with e; exact e.symm)); have HG6 := Lib.hid hgrow6; have hbk6 := HBK.out.grown hgrow6 (by simp [Value.ownBlock]); have HBK6 := Lib.hid hbk6; have q3 := hbk6.cell 3; have q4 := hbk6.free 3; have q5 := hbk6.lt; clear hown6 hgrow6 hat6 hbk6)
      obtain ⟨w7, hw7⟩ : ∃ w7, w7 = w6.setCell ⟨b, 3, none⟩ (.slice A6 na c6) := ⟨_, rfl⟩
      have hbk7 : Bk w7 b 46 #[.int .i64 xk, .string xt, .string xx, .slice A6 na c6, .int .i64 xp, .slice Ak nk ck] := by rw [hw7]; exact HBK6.out.set_ 3 _
      have hbl7 : Below wr.heap.size wr w7 := by rw [hw7]; exact bl_set (HBL.out.grown HG6.out HBL.out.size (fun k hk => by simp [Value.ownBlock] at hk)) b 3 (by rw [HBE.out]; exact Nat.le_refl _) _
      rw [← hw7]
      have HW7E := Lib.hid hw7
      have HBK7 := Lib.hid hbk7
      have HBL7 := Lib.hid hbl7
      have p5 := hbk7.cell 5
      have p6 := hbk7.free 5
      have p7 := hbk7.lt
      have hz7 : w.heap.size ≤ w7.heap.size := Nat.le_trans hbz hbl7.size
      clear hw7 hbk7 hbl7 q3 q4 q5 e3 f3 lb hz2 HBK HBL HBK6
      go_upto_region 8 with (at_builtin; refine wp_spread rfl _ _ 38 rfl w.heap.size 3 Tryz.underlying38 inf_I rfl (by omega) (.slice none 0 0) 0 [] rfl (World.ownsRow_nil _ _ _ _) wr.heap.size (.slice Ak nk ck) nk lk rfl (HYK.out.below HBL7.out) HOK.out (by unfold maxLen; omega) (by omega) hz7 ?_; intro v8 w8 hown8 hgrow8 hat8; rw [Nat.zero_add, List.nil_append] at hown8; obtain ⟨_, A8, c8, rfl, _, _⟩ := RdS.of_own hown8; have HO8 := Lib.hid hown8; have HA8 : Hid (∀ q, (Value.slice A8 nk c8).ownBlock = some q → q = w7.heap.size) := (fun q e => by rcases hat8 with e2 | e2; (· rw [e2] at e; cases e); (· rw [e2] at e; injection e with e; exact e.symm)); have HG8 := Lib.hid hgrow8; have hbk8 := HBK7.out.grown hgrow8 (by simp [Value.ownBlock]); have HBK8 := Lib.hid hbk8; have q3 := hbk8.cell 5; have q4 := hbk8.free 5; have q5 := hbk8.lt; clear hown8 hgrow8 hat8 hbk8)
      obtain ⟨w9, hw9⟩ : ∃ w9, w9 = w8.setCell ⟨b, 5, none⟩ (.slice A8 nk c8) := ⟨_, rfl⟩
      have hbk9 : Bk w9 b 46 #[.int .i64 xk, .string xt, .string xx, .slice A6 na c6, .int .i64 xp, .slice A8 nk c8] := by rw [hw9]; exact HBK8.out.set_ 5 _
      have hbl9 : Below wr.heap.size wr w9 := by rw [hw9]; exact bl_set (HBL7.out.grown HG8.out HBL7.out.size (fun k hk => by simp [Value.ownBlock] at hk)) b 5 (by rw [HBE.out]; exact Nat.le_refl _) _
      rw [← hw9]
      have HBL9 := Lib.hid hbl9
      have g0 := hbk9.cell 0; have g1 := hbk9.cell 1; have g2 := hbk9.cell 2; have g3 := hbk9.cell 3; have g4 := hbk9.cell 4; have g5 := hbk9.cell 5
      have l9 := hbk9.lt
      have hz9 : w.heap.size ≤ w9.heap.size := Nat.le_trans hbz hbl9.size
      have HO9 := Lib.hid (own_keep HSN.out.row (fun k hk => hbl9.block k (own_lt HSN.out.row hk).2))
      rw [HKL.out] at HO9
      have hb2 : wr.heap.size ≤ b := by rw [HBE.out]; exact Nat.le_refl _
      have hw7s : w6.heap.size = w7.heap.size := by rw [HW7E.out]; simp [World.setCell]
      have h68 := HG8.out.size
      have h26 := HG6.out.size
      have hw9s : w8.heap.size = w9.heap.size := by rw [hw9]; simp [World.setCell]
      have HA9 : Hid (w9.ownsRow w.heap.size 79 2 (.slice A6 na c6) na la) := own_keep (own_keep (own_keep HO6.out (fun q hq => by rw [HW7E.out]; exact Below.heap_setCell _ ⟨b, 3, none⟩ _ q (fun e => by have h1 := HA6.out q hq; have h2 := HB2L.out; have e2 : q = b := e; omega))) (fun q hq => HG8.out.block q (by have h1 := (own_lt HO6.out hq).2; omega) (by simp [Value.ownBlock]))) (fun q hq => by rw [hw9]; exact Below.heap_setCell _ ⟨b, 5, none⟩ _ q (fun e => by have h1 := HA6.out q hq; have h2 := HB2L.out; have e2 : q = b := e; omega))
      have HK9 : Hid (w9.ownsRow w.heap.size 3 1 (.slice A8 nk c8) nk lk) := own_keep HO8.out (fun q hq => by rw [hw9]; exact Below.heap_setCell _ ⟨b, 5, none⟩ _ q (fun e => by have h1 := HA8.out q hq; have h2 := HB2L.out; have e2 : q = b := e; omega))
      have HFA : Hid (∀ q, (Value.slice A6 na c6).ownBlock = some q → wr.heap.size ≤ q) := fun q hq => by have h1 := HA6.out q hq; have h2 := HB2L.out; omega
      have HFK : Hid (∀ q, (Value.slice A8 nk c8).ownBlock = some q → wr.heap.size ≤ q) := fun q hq => by have h1 := HA8.out q hq; have h2 := HB2L.out; omega
      have HFD : Hid (∀ q, (Value.slice A6 na c6).ownBlock = some q → (Value.slice A8 nk c8).ownBlock ≠ some q) := fun q hq hq2 => by have h1 := HA8.out q hq2; have h2 := (own_lt HO6.out hq).2; omega
      clear hb2 hw7s h68 h26 hw9s
      have hk6 : k ≤ 400 := by omega
      clear hw9 hbk9 hbl9 q3 q4 q5 p5 p6 p7 hz7 HBK7 HBL7 HBK8 HG8
      go_wp2_with (at_builtin; refine wp_push rfl _ _ 25 rfl w.heap.size 46 Tryz.underlying25 inf_rNode rfl (by decide) w9 u3 k (K.flatMap nvc) [.int .i64 xk, .string xt, .string xx, .slice A6 na c6, .int .i64 xp, .slice A8 nk c8] rfl rfl rfl HO9.out rfl (by simp [Value.oneCell']) (by omega) (by omega) hz9 ?_; intro v10 w10 hpush; have HPU := Lib.hid hpush; clear hpush)
      go_roundw
      case rel =>
        have hpu := HPU.out
        refine ⟨k + 1, by omega, by go_num, ⟨_, _, SnM.push (x := y.x) HSN.out HKL.out HBL9.out HZW.out HA9.out HK9.out HXB.out.1 HXB.out.2.1 HXB.out.2.2.1 HXB.out.2.2.2 HFA.out HFK.out HFD.out HXA.out.1 HXA.out.2.1 HXA.out.2.2.1 HXA.out.2.2.2 hpu, ?_⟩, hpu.below (bl_trans HB.out HBL9.out) (Nat.le_refl _) hz9⟩
        rw [List.map_append, HKM.out, List.take_succ_eq_append_getElem (by have := HN.out; omega), List.map_append]
        congr 1
        have h1 := (List.getElem?_eq_some_iff.1 HGY.out).2
        rw [← h1]; rfl
      case measure => simp [intOf]; omega
    · obtain rfl : k = n := by omega
      obtain ⟨θ, K, hsn, hkm⟩ := HO.out
      have hkl : K.length = k := by
        have := congrArg List.length hkm
        simp at this
        have h2 := HN.out
        omega
      have hrow := hsn.row
      rw [hkl] at hrow
      obtain ⟨_, A, c, rfl, _, _⟩ := RdS.of_own hrow
      have HSN := Lib.hid hsn
      have HKM := Lib.hid hkm
      clear hsn hkm hkl hrow
      go_wp2_with fail
      go_ret
      refine ⟨_, _, rfl, ⟨θ, K, HSN.out, ?_⟩, HB.out⟩
      rw [HKM.out, List.take_of_length_le (by have := HN.out; omega)]
end Go.Proofs.YtimlmekgapdkiaaGreatDoor
namespace Go.Proofs.YtimlmekgapdkiaaGreatDoor
set_option linter.unusedVariables false
set_option linter.unusedSimpArgs false
open Go.RowKit Go.Cas

theorem inf_rS : (Tryz.prog.info? 25).map (fun i => (i.zero, i.size, i.bytes)) = some (some (.slice none 0 0), 1, 24) := by kernel_rfl
/-- what a cell holds, whatever it is: a region may store to a cell that it loads -/
def cellV (w : World) (R o : Nat) : Value := (w.cell? ⟨R, o, none⟩).getD .nilIface
theorem cellV_eq {w : World} {R o : Nat} {v : Value} (h : w.cell? ⟨R, o, none⟩ = some v) : cellV w R o = v := by unfold cellV; rw [h]; rfl
theorem cellV_some {w : World} {R o : Nat} {v : Value} (h : w.cell? ⟨R, o, none⟩ = some v) : w.cell? ⟨R, o, none⟩ = some (cellV w R o) := by rw [cellV_eq h]; exact h
/-- what keep leaves: one more tree that was, in blocks that no one else has -/
structure Kpd (B R L cap nT : Nat) (xs : List Value) (τ : Nat → Nat) (M : List NV) (w : World) (tv' v : Value) (τ' : Nat → Nat) (hi : Nat) (w' : World) : Prop where
  rt : RT B R L cap (nT + 1) tv' (xs ++ [v]) τ' M w'
  lt : ∀ k, k < w.heap.size → τ' k ≠ 0 → τ k ≠ 0
  kp : Kept w w' (fun k => τ k ≠ 0)
  sn : Snp w.heap.size hi v (M.map NV.x) w'
  fr : ∀ k, w.heap.size ≤ k → k < hi → τ' k = 0
  hi : w.heap.size ≤ hi ∧ hi ≤ w'.heap.size
def KpRet (B R L cap nT : Nat) (xs : List Value) (τ : Nat → Nat) (M : List NV) (w : World) (e : Ending) (w' : World) : Prop :=
  (∃ u, e = .returned u) ∧ ∃ tv' v τ' hi, Kpd B R L cap nT xs τ M w tv' v τ' hi w'
set_option maxRecDepth 100000 in
set_option maxHeartbeats 8000000 in
theorem c_rKeep {w : World} {B R L cap nT : Nat} {tv : Value} {xs : List Value} {τ : Nat → Nat} {M : List NV} (h : RT B R L cap nT tv xs τ M w) (hM : M.length ≤ 400) (hF : Few M) (hT : nT ≤ 1000000) :
    Calls Tryz.prog 51 #[.pointer (some ⟨R, 0, none⟩)] w (KpRet B R L cap nT xs τ M w) := by
  have H := Lib.hid h
  have HC := Lib.hid (c_rCopied (h.below (bl_drew (Below.refl _ w))) hM hF)
  have HS : Hid (∀ W', Below w.heap.size w W' → (W'.cell? ⟨R, 0, none⟩ = some (.slice (some ⟨L, 0, none⟩) M.length cap) ∧ W'.cell? ⟨R, 1, none⟩ = some tv)) := fun W' hb => ⟨(h.below hb).heads.1, (h.below hb).heads.2.1⟩
  have hTR : Hid (∀ k, tv.ownBlock = some k → k ≠ R) := fun k hk e => by have h1 := h.tT k hk; have h2 := h.tR; rw [e] at h1; omega
  obtain ⟨i0, hi0, hz0, hz1, hz2⟩ := info_parts inf_rS
  have HLT := Lib.hid h.ltR
  have HBB := Lib.hid h.hB
  obtain ⟨_, At, ct, rfl, _, _⟩ := RdS.of_own h.ow
  clear h hF
  go_enter Tryz.func51, Tryz.ntmps51
  have HV : Hid (∀ W', Below w.heap.size w W' → cellV W' R 1 = .slice At nT ct) := fun W' hb => cellV_eq (HS.out W' hb).2
  have HK : Hid (∀ W', Below w.heap.size w W' → (W'.cell? ⟨R, 0, none⟩ = some (.slice (some ⟨L, 0, none⟩) M.length cap) ∧ W'.cell? ⟨R, 1, none⟩ = some (cellV W' R 1))) := fun W' hb => ⟨(HS.out W' hb).1, cellV_some (HS.out W' hb).2⟩
  refine wp_region_noPanic ?_
  refine wp_region_held_drew (S := (fun w' => w'.cell? ⟨R, 0, none⟩ = some (.slice (some ⟨L, 0, none⟩) M.length cap) ∧ w'.cell? ⟨R, 1, none⟩ = some (cellV w' R 1))) (by kernel_rfl) ?_ (fun hHeld => ?_)
  · (try dsimp only)
    (first | with_reducible exact HK.out _ (bl_drew (Below.refl _ _)) | with_reducible exact HK.out _ (Below.refl _ _) | with_reducible exact HK.out _ HBC.out | with_reducible exact HK.out _ (bl_alloc HBC.out _) | with_reducible exact HS6.out | with_reducible exact HS7.out _)
  refine wpAnyH_take (i := 0) (v := ?_) rfl (by kernel_rfl) (by kernel_rfl) (by kernel_rfl) (fun _ _ _ h => h) (Or.inl ⟨by rfl, ?_⟩) (by assumption) ?_
  rotate_left
  · ((intro w hSw; (try dsimp only at hSw); go_simp); (try with_reducible rfl))
  try simp only [Act.put, List.setIfInBounds_toArray, List.set_cons_zero, List.set_cons_succ]
  refine wpAnyH_take (i := 1) (v := ?_) rfl (by kernel_rfl) (by kernel_rfl) (by kernel_rfl) (fun _ _ _ h => h) (Or.inl ⟨by rfl, ?_⟩) (by assumption) ?_
  rotate_left
  · ((intro w hSw; (try dsimp only at hSw); go_simp); (try with_reducible rfl))
  try simp only [Act.put, List.setIfInBounds_toArray, List.set_cons_zero, List.set_cons_succ]
  refine wpAnyH_take (i := 2) (v := ?_) rfl (by kernel_rfl) (by kernel_rfl) (by kernel_rfl) (fun _ _ _ h => h) (Or.inl ⟨by rfl, ?_⟩) (by assumption) ?_
  rotate_left
  · ((intro w hSw; (try dsimp only at hSw); go_simp); (try with_reducible rfl))
  try simp only [Act.put, List.setIfInBounds_toArray, List.set_cons_zero, List.set_cons_succ]
  refine wpAnyH_take (i := 3) (v := ?_) rfl (by kernel_rfl) (by kernel_rfl) (by kernel_rfl) (fun _ _ _ h => h) (Or.inl ⟨by rfl, ?_⟩) (by assumption) ?_
  rotate_left
  · ((intro w hSw; (try dsimp only at hSw); go_simp); (try with_reducible rfl))
  try simp only [Act.put, List.setIfInBounds_toArray, List.set_cons_zero, List.set_cons_succ]
  refine wpAnyH_take (i := 5) (v := ?_) rfl (by kernel_rfl) (by kernel_rfl) (by kernel_rfl) (fun _ _ _ h => h) (Or.inl ⟨by rfl, ?_⟩) (by assumption) ?_
  rotate_left
  · ((intro w hSw; (try dsimp only at hSw); go_simp); (try with_reducible rfl))
  try simp only [Act.put, List.setIfInBounds_toArray, List.set_cons_zero, List.set_cons_succ]
  refine wpAnyH_take (i := 6) (v := ?_) rfl (by kernel_rfl) (by kernel_rfl) (by kernel_rfl) (fun _ _ _ h => h) (Or.inl ⟨by rfl, ?_⟩) (by assumption) ?_
  rotate_left
  · ((intro w hSw; (try dsimp only at hSw); go_simp); (try with_reducible rfl))
  try simp only [Act.put, List.setIfInBounds_toArray, List.set_cons_zero, List.set_cons_succ]
  refine wpAnyH_take (i := 7) (v := ?_) rfl (by kernel_rfl) (by kernel_rfl) (by kernel_rfl) (fun _ _ _ h => h) (Or.inl ⟨by rfl, ?_⟩) (by assumption) ?_
  rotate_left
  · ((intro w hSw; (try dsimp only at hSw); go_simp); (try with_reducible rfl))
  try simp only [Act.put, List.setIfInBounds_toArray, List.set_cons_zero, List.set_cons_succ]
  refine wpAnyH_take (i := 8) (v := ?_) rfl (by kernel_rfl) (by kernel_rfl) (by kernel_rfl) (fun _ _ _ h => h) (Or.inl ⟨by rfl, ?_⟩) (by assumption) ?_
  rotate_left
  · ((intro w hSw; (try dsimp only at hSw); go_simp); (try with_reducible rfl))
  try simp only [Act.put, List.setIfInBounds_toArray, List.set_cons_zero, List.set_cons_succ]
  refine wpAnyH_ready (rs := [4, 9]) (by kernel_rfl) (by simp) ?_
  refine AllReadyH.cons rfl (fun K hK => ?_) ?_
  · go_simp
    refine hK.out _ _ ?_ (fun hHeld => ?_)
    · (try dsimp only)
      (first | with_reducible exact HK.out _ (bl_drew (Below.refl _ _)) | with_reducible exact HK.out _ (Below.refl _ _) | with_reducible exact HK.out _ HBC.out | with_reducible exact HK.out _ (bl_alloc HBC.out _) | with_reducible exact HS6.out | with_reducible exact HS7.out _)
    clear hK K
    try simp only [Act.put, List.setIfInBounds_toArray, List.set_cons_zero, List.set_cons_succ]
    refine wpAnyH_ready (rs := [9]) (by kernel_rfl) (by simp) ?_
    refine AllReadyH.cons rfl (fun K hK => ?_) ?_
    · (go_simp; go_at_call 71; (with_reducible refine (HC.out).mono ?_); rintro e w1 ⟨A1, c1, rfl, hsn, hb1⟩; have HSN := Lib.hid hsn; have HBC : Hid (Below w.heap.size w w1) := bl_trans (bl_drew (Below.refl _ _)) hb1; have HOT := Lib.hid (own_keep H.out.ow (fun k hk => HBC.out.block k (own_lt H.out.ow hk).2)); have c0 := (HS.out w1 HBC.out).1; have c2 := (HS.out w1 HBC.out).2; have c3 : R < w1.heap.size := Nat.lt_of_lt_of_le HLT.out HBC.out.size; clear hb1 hsn)
      refine hK.out _ _ ?_ (fun hHeld => ?_)
      · (try dsimp only)
        (first | with_reducible exact HK.out _ (bl_drew (Below.refl _ _)) | with_reducible exact HK.out _ (Below.refl _ _) | with_reducible exact HK.out _ HBC.out | with_reducible exact HK.out _ (bl_alloc HBC.out _) | with_reducible exact HS6.out | with_reducible exact HS7.out _)
      clear hK K
      try simp only [Act.put, List.setIfInBounds_toArray, List.set_cons_zero, List.set_cons_succ]
      refine wpAnyH_ready (rs := [10]) (by kernel_rfl) (by simp) ?_
      refine AllReadyH.cons rfl (fun K hK => ?_) ?_
      · go_simp
        refine hK.out _ _ ?_ (fun hHeld => ?_)
        · (try dsimp only)
          (first | with_reducible exact HK.out _ (bl_drew (Below.refl _ _)) | with_reducible exact HK.out _ (Below.refl _ _) | with_reducible exact HK.out _ HBC.out | with_reducible exact HK.out _ (bl_alloc HBC.out _) | with_reducible exact HS6.out | with_reducible exact HS7.out _)
        clear hK K
        try simp only [Act.put, List.setIfInBounds_toArray, List.set_cons_zero, List.set_cons_succ]
        refine wpAnyH_ready (rs := [11]) (by kernel_rfl) (by simp) ?_
        refine AllReadyH.cons rfl (fun K hK => ?_) ?_
        · (refine step_append_lies _ (by rfl) _ _ _ (by rfl) B 25 i0 _ 1 24 Tryz.underlying26 hi0 hz0 hz1 hz2 rfl (by omega) (.slice At nT ct) nT xs (by first | exact HV.out _ (bl_drew (Below.refl _ _)) | exact HV.out _ HBC.out | exact HV.out _ (bl_alloc HBC.out _) | rfl) (HOT.out.alloc _) ⟨w1.heap.size, 0, none⟩ 1 1 [.slice A1 M.length c1] (by rfl) (by rfl) (World.news_of_block (cs := #[.slice A1 M.length c1]) (t := 25) (fr := (0, 0)) (bk_new' w1 25 #[.slice A1 M.length c1] rfl)) (by simp [Value.oneCell']) (by omega) (by unfold maxLen; omega) (by omega) (by have := HBB.out; have := HBC.out.size; simp; omega) (w1.heap.size + 1) (by simp) ?_; intro gg cap6 w6 hown6 hgrow6 hat6 hlt6; have HO6 := Lib.hid hown6; have HG6 := Lib.hid hgrow6; have HAT : Hid ((Value.slice At nT ct).ownBlock = some gg ∨ gg = w1.heap.size + 1) := hat6; have HBA : Hid (Below w.heap.size w (w1.alloc (.cells #[.slice A1 M.length c1] 25))) := bl_alloc HBC.out _; have hbR : Bk w6 R 28 #[.slice (some ⟨L, 0, none⟩) M.length cap, .slice At nT ct] := (H.out.root.below HBA.out HLT.out).grown hgrow6 (fun e => hTR.out R e.symm rfl); have HBR := Lib.hid hbR; have q1 := hbR.free 1; have q2 := hbR.cell 1; have q3 := hbR.lt; have HS6 : Hid (w6.cell? ⟨R, 0, none⟩ = some (.slice (some ⟨L, 0, none⟩) M.length cap) ∧ w6.cell? ⟨R, 1, none⟩ = some (cellV w6 R 1)) := ⟨hbR.cell 0, cellV_some (hbR.cell 1)⟩; have HS7 : Hid (∀ u, (w6.setCell ⟨R, 1, none⟩ u).cell? ⟨R, 0, none⟩ = some (.slice (some ⟨L, 0, none⟩) M.length cap) ∧ (w6.setCell ⟨R, 1, none⟩ u).cell? ⟨R, 1, none⟩ = some (cellV (w6.setCell ⟨R, 1, none⟩ u) R 1)) := fun u => ⟨(hbR.set_ 1 u).cell 0, cellV_some ((hbR.set_ 1 u).cell 1)⟩; clear hown6 hgrow6 hat6 hlt6 hbR)
          refine hK.out _ _ ?_ (fun hHeld => ?_)
          · (try dsimp only)
            (first | with_reducible exact HK.out _ (bl_drew (Below.refl _ _)) | with_reducible exact HK.out _ (Below.refl _ _) | with_reducible exact HK.out _ HBC.out | with_reducible exact HK.out _ (bl_alloc HBC.out _) | with_reducible exact HS6.out | with_reducible exact HS7.out _)
          clear hK K
          try simp only [Act.put, List.setIfInBounds_toArray, List.set_cons_zero, List.set_cons_succ]
          refine wpAnyH_take (i := 12) (v := ?_) rfl (by kernel_rfl) (by kernel_rfl) (by kernel_rfl) (fun _ _ _ h => h) (Or.inl ⟨by rfl, ?_⟩) (by assumption) ?_
          rotate_left
          · ((intro w hSw; (try dsimp only at hSw); go_simp); (try with_reducible rfl))
          try simp only [Act.put, List.setIfInBounds_toArray, List.set_cons_zero, List.set_cons_succ]
          refine wpAnyH_take (i := 13) (v := ?_) rfl (by kernel_rfl) (by kernel_rfl) (by kernel_rfl) (fun _ _ _ h => h) (Or.inl ⟨by rfl, ?_⟩) (by assumption) ?_
          rotate_left
          · ((intro w hSw; (try dsimp only at hSw); go_simp); (try with_reducible rfl))
          try simp only [Act.put, List.setIfInBounds_toArray, List.set_cons_zero, List.set_cons_succ]
          refine wpAnyH_ready (rs := [14]) (by kernel_rfl) (by simp) ?_
          refine AllReadyH.cons rfl (fun K hK => ?_) ?_
          · go_simp
            refine hK.out _ _ ?_ (fun hHeld => ?_)
            · (try dsimp only)
              (first | with_reducible exact HK.out _ (bl_drew (Below.refl _ _)) | with_reducible exact HK.out _ (Below.refl _ _) | with_reducible exact HK.out _ HBC.out | with_reducible exact HK.out _ (bl_alloc HBC.out _) | with_reducible exact HS6.out | with_reducible exact HS7.out _)
            clear hK K
            try simp only [Act.put, List.setIfInBounds_toArray, List.set_cons_zero, List.set_cons_succ]
            refine wpAnyH_done (by kernel_rfl) ?_ _
            refine NoPanic.normal ?_
            go_wp2_with fail
            go_end0
            have hs6 : w.heap.size ≤ w6.heap.size := Nat.le_trans HBA.out.size HG6.out.size
            have hat : ∀ k, (Value.slice (some ⟨gg, 0, none⟩) (nT + 1) cap6).ownBlock = some k → (Value.slice At nT ct).ownBlock = some k ∨ w.heap.size ≤ k := fun k hk => by
              injection hk with hk
              subst hk
              rcases HAT.out with e | e
              · exact .inl e
              · right; have := HBC.out.size; show w.heap.size ≤ gg; omega
            have hkk : ∀ k, k < w.heap.size → (Value.slice At nT ct).ownBlock ≠ some k → w6.heap[k]? = w.heap[k]? := fun k hk hn => (HG6.out.block k (Nat.lt_of_lt_of_le hk HBA.out.size) (fun e => hn e.symm)).trans (HBA.out.block k hk)
            have hsz : (w6.setCell ⟨R, 1, none⟩ (.slice (some ⟨gg, 0, none⟩) (nT + 1) cap6)).heap.size = w6.heap.size := by simp [World.setCell]
            have hg1 : w1.heap.size ≤ w6.heap.size := Nat.le_trans (by simp) HG6.out.size
            have hRlt := HLT.out
            have k1 : Kept w w6 (fun k => τ k ≠ 0) := (Kept.of_below HBA.out _).then_ (Kept.grown HG6.out (fun k => (Value.slice At nT ct).ownBlock = some k) (fun k e => e)) (fun k _ e => by rw [H.out.tT k e]; omega)
            refine ⟨⟨_, rfl⟩, _, _, _, w1.heap.size, ⟨H.out.setT (.slice (some ⟨gg, 0, none⟩) (nT + 1) cap6) hkk hs6 HO6.out hat, fun k hk hf => ?_, k1.set_ R 1 (fun _ => by rw [H.out.tR]; omega) _, ?_, fun k h1 h2 => ?_, ⟨HBC.out.size, by rw [hsz]; exact hg1⟩⟩⟩
            · by_cases e : (Value.slice (some ⟨gg, 0, none⟩) (nT + 1) cap6).ownBlock = some k
              · rcases hat k e with e2 | e2
                · rw [H.out.tT k e2]; omega
                · omega
              · rw [if_neg e] at hf; exact hf
            · refine HSN.out.keep (fun k h1 h2 => ?_) (by rw [hsz]; exact hg1)
              refine (Below.heap_setCell _ ⟨R, 1, none⟩ _ k (fun e => by have h1' : w.heap.size ≤ k := h1; have e2 : k = R := e; omega)).trans ((HG6.out.block k (Nat.lt_of_lt_of_le h2 (by simp)) (fun e => ?_)).trans ?_)
              · have := (own_lt H.out.ow e.symm).2
                have h1' : w.heap.size ≤ k := h1
                omega
              · exact (bl_alloc (Below.refl w1.heap.size w1) _).block k h2
            · show (if (Value.slice (some ⟨gg, 0, none⟩) (nT + 1) cap6).ownBlock = some k then 3 else τ k) = 0
              rw [if_neg (fun e => by
                injection e with e
                have e : gg = k := e
                rcases HAT.out with e2 | e2
                · have := (own_lt H.out.ow e2).2; omega
                · omega)]
              exact Decidable.byContradiction (fun e => by have := (H.out.tB k e).2; omega)
          exact AllReadyH.nil
        exact AllReadyH.nil
      exact AllReadyH.nil
    exact AllReadyH.nil
  refine AllReadyH.cons rfl (fun K hK => ?_) ?_
  · (go_simp; go_at_call 71; (with_reducible refine (HC.out).mono ?_); rintro e w1 ⟨A1, c1, rfl, hsn, hb1⟩; have HSN := Lib.hid hsn; have HBC : Hid (Below w.heap.size w w1) := bl_trans (bl_drew (Below.refl _ _)) hb1; have HOT := Lib.hid (own_keep H.out.ow (fun k hk => HBC.out.block k (own_lt H.out.ow hk).2)); have c0 := (HS.out w1 HBC.out).1; have c2 := (HS.out w1 HBC.out).2; have c3 : R < w1.heap.size := Nat.lt_of_lt_of_le HLT.out HBC.out.size; clear hb1 hsn)
    refine hK.out _ _ ?_ (fun hHeld => ?_)
    · (try dsimp only)
      (first | with_reducible exact HK.out _ (bl_drew (Below.refl _ _)) | with_reducible exact HK.out _ (Below.refl _ _) | with_reducible exact HK.out _ HBC.out | with_reducible exact HK.out _ (bl_alloc HBC.out _) | with_reducible exact HS6.out | with_reducible exact HS7.out _)
    clear hK K
    try simp only [Act.put, List.setIfInBounds_toArray, List.set_cons_zero, List.set_cons_succ]
    refine wpAnyH_ready (rs := [4, 10]) (by kernel_rfl) (by simp) ?_
    refine AllReadyH.cons rfl (fun K hK => ?_) ?_
    · go_simp
      refine hK.out _ _ ?_ (fun hHeld => ?_)
      · (try dsimp only)
        (first | with_reducible exact HK.out _ (bl_drew (Below.refl _ _)) | with_reducible exact HK.out _ (Below.refl _ _) | with_reducible exact HK.out _ HBC.out | with_reducible exact HK.out _ (bl_alloc HBC.out _) | with_reducible exact HS6.out | with_reducible exact HS7.out _)
      clear hK K
      try simp only [Act.put, List.setIfInBounds_toArray, List.set_cons_zero, List.set_cons_succ]
      refine wpAnyH_ready (rs := [10]) (by kernel_rfl) (by simp) ?_
      refine AllReadyH.cons rfl (fun K hK => ?_) ?_
      · go_simp
        refine hK.out _ _ ?_ (fun hHeld => ?_)
        · (try dsimp only)
          (first | with_reducible exact HK.out _ (bl_drew (Below.refl _ _)) | with_reducible exact HK.out _ (Below.refl _ _) | with_reducible exact HK.out _ HBC.out | with_reducible exact HK.out _ (bl_alloc HBC.out _) | with_reducible exact HS6.out | with_reducible exact HS7.out _)
        clear hK K
        try simp only [Act.put, List.setIfInBounds_toArray, List.set_cons_zero, List.set_cons_succ]
        refine wpAnyH_ready (rs := [11]) (by kernel_rfl) (by simp) ?_
        refine AllReadyH.cons rfl (fun K hK => ?_) ?_
        · (refine step_append_lies _ (by rfl) _ _ _ (by rfl) B 25 i0 _ 1 24 Tryz.underlying26 hi0 hz0 hz1 hz2 rfl (by omega) (.slice At nT ct) nT xs (by first | exact HV.out _ (bl_drew (Below.refl _ _)) | exact HV.out _ HBC.out | exact HV.out _ (bl_alloc HBC.out _) | rfl) (HOT.out.alloc _) ⟨w1.heap.size, 0, none⟩ 1 1 [.slice A1 M.length c1] (by rfl) (by rfl) (World.news_of_block (cs := #[.slice A1 M.length c1]) (t := 25) (fr := (0, 0)) (bk_new' w1 25 #[.slice A1 M.length c1] rfl)) (by simp [Value.oneCell']) (by omega) (by unfold maxLen; omega) (by omega) (by have := HBB.out; have := HBC.out.size; simp; omega) (w1.heap.size + 1) (by simp) ?_; intro gg cap6 w6 hown6 hgrow6 hat6 hlt6; have HO6 := Lib.hid hown6; have HG6 := Lib.hid hgrow6; have HAT : Hid ((Value.slice At nT ct).ownBlock = some gg ∨ gg = w1.heap.size + 1) := hat6; have HBA : Hid (Below w.heap.size w (w1.alloc (.cells #[.slice A1 M.length c1] 25))) := bl_alloc HBC.out _; have hbR : Bk w6 R 28 #[.slice (some ⟨L, 0, none⟩) M.length cap, .slice At nT ct] := (H.out.root.below HBA.out HLT.out).grown hgrow6 (fun e => hTR.out R e.symm rfl); have HBR := Lib.hid hbR; have q1 := hbR.free 1; have q2 := hbR.cell 1; have q3 := hbR.lt; have HS6 : Hid (w6.cell? ⟨R, 0, none⟩ = some (.slice (some ⟨L, 0, none⟩) M.length cap) ∧ w6.cell? ⟨R, 1, none⟩ = some (cellV w6 R 1)) := ⟨hbR.cell 0, cellV_some (hbR.cell 1)⟩; have HS7 : Hid (∀ u, (w6.setCell ⟨R, 1, none⟩ u).cell? ⟨R, 0, none⟩ = some (.slice (some ⟨L, 0, none⟩) M.length cap) ∧ (w6.setCell ⟨R, 1, none⟩ u).cell? ⟨R, 1, none⟩ = some (cellV (w6.setCell ⟨R, 1, none⟩ u) R 1)) := fun u => ⟨(hbR.set_ 1 u).cell 0, cellV_some ((hbR.set_ 1 u).cell 1)⟩; clear hown6 hgrow6 hat6 hlt6 hbR)
          refine hK.out _ _ ?_ (fun hHeld => ?_)
          · (try dsimp only)
            (first | with_reducible exact HK.out _ (bl_drew (Below.refl _ _)) | with_reducible exact HK.out _ (Below.refl _ _) | with_reducible exact HK.out _ HBC.out | with_reducible exact HK.out _ (bl_alloc HBC.out _) | with_reducible exact HS6.out | with_reducible exact HS7.out _)
          clear hK K
          try simp only [Act.put, List.setIfInBounds_toArray, List.set_cons_zero, List.set_cons_succ]
          refine wpAnyH_take (i := 12) (v := ?_) rfl (by kernel_rfl) (by kernel_rfl) (by kernel_rfl) (fun _ _ _ h => h) (Or.inl ⟨by rfl, ?_⟩) (by assumption) ?_
          rotate_left
          · ((intro w hSw; (try dsimp only at hSw); go_simp); (try with_reducible rfl))
          try simp only [Act.put, List.setIfInBounds_toArray, List.set_cons_zero, List.set_cons_succ]
          refine wpAnyH_take (i := 13) (v := ?_) rfl (by kernel_rfl) (by kernel_rfl) (by kernel_rfl) (fun _ _ _ h => h) (Or.inl ⟨by rfl, ?_⟩) (by assumption) ?_
          rotate_left
          · ((intro w hSw; (try dsimp only at hSw); go_simp); (try with_reducible rfl))
          try simp only [Act.put, List.setIfInBounds_toArray, List.set_cons_zero, List.set_cons_succ]
          refine wpAnyH_ready (rs := [14]) (by kernel_rfl) (by simp) ?_
          refine AllReadyH.cons rfl (fun K hK => ?_) ?_
          · go_simp
            refine hK.out _ _ ?_ (fun hHeld => ?_)
            · (try dsimp only)
              (first | with_reducible exact HK.out _ (bl_drew (Below.refl _ _)) | with_reducible exact HK.out _ (Below.refl _ _) | with_reducible exact HK.out _ HBC.out | with_reducible exact HK.out _ (bl_alloc HBC.out _) | with_reducible exact HS6.out | with_reducible exact HS7.out _)
            clear hK K
            try simp only [Act.put, List.setIfInBounds_toArray, List.set_cons_zero, List.set_cons_succ]
            refine wpAnyH_done (by kernel_rfl) ?_ _
            refine NoPanic.normal ?_
            go_wp2_with fail
            go_end0
            have hs6 : w.heap.size ≤ w6.heap.size := Nat.le_trans HBA.out.size HG6.out.size
            have hat : ∀ k, (Value.slice (some ⟨gg, 0, none⟩) (nT + 1) cap6).ownBlock = some k → (Value.slice At nT ct).ownBlock = some k ∨ w.heap.size ≤ k := fun k hk => by
              injection hk with hk
              subst hk
              rcases HAT.out with e | e
              · exact .inl e
              · right; have := HBC.out.size; show w.heap.size ≤ gg; omega
            have hkk : ∀ k, k < w.heap.size → (Value.slice At nT ct).ownBlock ≠ some k → w6.heap[k]? = w.heap[k]? := fun k hk hn => (HG6.out.block k (Nat.lt_of_lt_of_le hk HBA.out.size) (fun e => hn e.symm)).trans (HBA.out.block k hk)
            have hsz : (w6.setCell ⟨R, 1, none⟩ (.slice (some ⟨gg, 0, none⟩) (nT + 1) cap6)).heap.size = w6.heap.size := by simp [World.setCell]
            have hg1 : w1.heap.size ≤ w6.heap.size := Nat.le_trans (by simp) HG6.out.size
            have hRlt := HLT.out
            have k1 : Kept w w6 (fun k => τ k ≠ 0) := (Kept.of_below HBA.out _).then_ (Kept.grown HG6.out (fun k => (Value.slice At nT ct).ownBlock = some k) (fun k e => e)) (fun k _ e => by rw [H.out.tT k e]; omega)
            refine ⟨⟨_, rfl⟩, _, _, _, w1.heap.size, ⟨H.out.setT (.slice (some ⟨gg, 0, none⟩) (nT + 1) cap6) hkk hs6 HO6.out hat, fun k hk hf => ?_, k1.set_ R 1 (fun _ => by rw [H.out.tR]; omega) _, ?_, fun k h1 h2 => ?_, ⟨HBC.out.size, by rw [hsz]; exact hg1⟩⟩⟩
            · by_cases e : (Value.slice (some ⟨gg, 0, none⟩) (nT + 1) cap6).ownBlock = some k
              · rcases hat k e with e2 | e2
                · rw [H.out.tT k e2]; omega
                · omega
              · rw [if_neg e] at hf; exact hf
            · refine HSN.out.keep (fun k h1 h2 => ?_) (by rw [hsz]; exact hg1)
              refine (Below.heap_setCell _ ⟨R, 1, none⟩ _ k (fun e => by have h1' : w.heap.size ≤ k := h1; have e2 : k = R := e; omega)).trans ((HG6.out.block k (Nat.lt_of_lt_of_le h2 (by simp)) (fun e => ?_)).trans ?_)
              · have := (own_lt H.out.ow e.symm).2
                have h1' : w.heap.size ≤ k := h1
                omega
              · exact (bl_alloc (Below.refl w1.heap.size w1) _).block k h2
            · show (if (Value.slice (some ⟨gg, 0, none⟩) (nT + 1) cap6).ownBlock = some k then 3 else τ k) = 0
              rw [if_neg (fun e => by
                injection e with e
                have e : gg = k := e
                rcases HAT.out with e2 | e2
                · have := (own_lt H.out.ow e2).2; omega
                · omega)]
              exact Decidable.byContradiction (fun e => by have := (H.out.tB k e).2; omega)
          exact AllReadyH.nil
        exact AllReadyH.nil
      exact AllReadyH.nil
    refine AllReadyH.cons rfl (fun K hK => ?_) ?_
    · go_simp
      refine hK.out _ _ ?_ (fun hHeld => ?_)
      · (try dsimp only)
        (first | with_reducible exact HK.out _ (bl_drew (Below.refl _ _)) | with_reducible exact HK.out _ (Below.refl _ _) | with_reducible exact HK.out _ HBC.out | with_reducible exact HK.out _ (bl_alloc HBC.out _) | with_reducible exact HS6.out | with_reducible exact HS7.out _)
      clear hK K
      try simp only [Act.put, List.setIfInBounds_toArray, List.set_cons_zero, List.set_cons_succ]
      refine wpAnyH_ready (rs := [4]) (by kernel_rfl) (by simp) ?_
      refine AllReadyH.cons rfl (fun K hK => ?_) ?_
      · go_simp
        refine hK.out _ _ ?_ (fun hHeld => ?_)
        · (try dsimp only)
          (first | with_reducible exact HK.out _ (bl_drew (Below.refl _ _)) | with_reducible exact HK.out _ (Below.refl _ _) | with_reducible exact HK.out _ HBC.out | with_reducible exact HK.out _ (bl_alloc HBC.out _) | with_reducible exact HS6.out | with_reducible exact HS7.out _)
        clear hK K
        try simp only [Act.put, List.setIfInBounds_toArray, List.set_cons_zero, List.set_cons_succ]
        refine wpAnyH_ready (rs := [11]) (by kernel_rfl) (by simp) ?_
        refine AllReadyH.cons rfl (fun K hK => ?_) ?_
        · (refine step_append_lies _ (by rfl) _ _ _ (by rfl) B 25 i0 _ 1 24 Tryz.underlying26 hi0 hz0 hz1 hz2 rfl (by omega) (.slice At nT ct) nT xs (by first | exact HV.out _ (bl_drew (Below.refl _ _)) | exact HV.out _ HBC.out | exact HV.out _ (bl_alloc HBC.out _) | rfl) (HOT.out.alloc _) ⟨w1.heap.size, 0, none⟩ 1 1 [.slice A1 M.length c1] (by rfl) (by rfl) (World.news_of_block (cs := #[.slice A1 M.length c1]) (t := 25) (fr := (0, 0)) (bk_new' w1 25 #[.slice A1 M.length c1] rfl)) (by simp [Value.oneCell']) (by omega) (by unfold maxLen; omega) (by omega) (by have := HBB.out; have := HBC.out.size; simp; omega) (w1.heap.size + 1) (by simp) ?_; intro gg cap6 w6 hown6 hgrow6 hat6 hlt6; have HO6 := Lib.hid hown6; have HG6 := Lib.hid hgrow6; have HAT : Hid ((Value.slice At nT ct).ownBlock = some gg ∨ gg = w1.heap.size + 1) := hat6; have HBA : Hid (Below w.heap.size w (w1.alloc (.cells #[.slice A1 M.length c1] 25))) := bl_alloc HBC.out _; have hbR : Bk w6 R 28 #[.slice (some ⟨L, 0, none⟩) M.length cap, .slice At nT ct] := (H.out.root.below HBA.out HLT.out).grown hgrow6 (fun e => hTR.out R e.symm rfl); have HBR := Lib.hid hbR; have q1 := hbR.free 1; have q2 := hbR.cell 1; have q3 := hbR.lt; have HS6 : Hid (w6.cell? ⟨R, 0, none⟩ = some (.slice (some ⟨L, 0, none⟩) M.length cap) ∧ w6.cell? ⟨R, 1, none⟩ = some (cellV w6 R 1)) := ⟨hbR.cell 0, cellV_some (hbR.cell 1)⟩; have HS7 : Hid (∀ u, (w6.setCell ⟨R, 1, none⟩ u).cell? ⟨R, 0, none⟩ = some (.slice (some ⟨L, 0, none⟩) M.length cap) ∧ (w6.setCell ⟨R, 1, none⟩ u).cell? ⟨R, 1, none⟩ = some (cellV (w6.setCell ⟨R, 1, none⟩ u) R 1)) := fun u => ⟨(hbR.set_ 1 u).cell 0, cellV_some ((hbR.set_ 1 u).cell 1)⟩; clear hown6 hgrow6 hat6 hlt6 hbR)
          refine hK.out _ _ ?_ (fun hHeld => ?_)
          · (try dsimp only)
            (first | with_reducible exact HK.out _ (bl_drew (Below.refl _ _)) | with_reducible exact HK.out _ (Below.refl _ _) | with_reducible exact HK.out _ HBC.out | with_reducible exact HK.out _ (bl_alloc HBC.out _) | with_reducible exact HS6.out | with_reducible exact HS7.out _)
          clear hK K
          try simp only [Act.put, List.setIfInBounds_toArray, List.set_cons_zero, List.set_cons_succ]
          refine wpAnyH_take (i := 12) (v := ?_) rfl (by kernel_rfl) (by kernel_rfl) (by kernel_rfl) (fun _ _ _ h => h) (Or.inl ⟨by rfl, ?_⟩) (by assumption) ?_
          rotate_left
          · ((intro w hSw; (try dsimp only at hSw); go_simp); (try with_reducible rfl))
          try simp only [Act.put, List.setIfInBounds_toArray, List.set_cons_zero, List.set_cons_succ]
          refine wpAnyH_take (i := 13) (v := ?_) rfl (by kernel_rfl) (by kernel_rfl) (by kernel_rfl) (fun _ _ _ h => h) (Or.inl ⟨by rfl, ?_⟩) (by assumption) ?_
          rotate_left
          · ((intro w hSw; (try dsimp only at hSw); go_simp); (try with_reducible rfl))
          try simp only [Act.put, List.setIfInBounds_toArray, List.set_cons_zero, List.set_cons_succ]
          refine wpAnyH_ready (rs := [14]) (by kernel_rfl) (by simp) ?_
          refine AllReadyH.cons rfl (fun K hK => ?_) ?_
          · go_simp
            refine hK.out _ _ ?_ (fun hHeld => ?_)
            · (try dsimp only)
              (first | with_reducible exact HK.out _ (bl_drew (Below.refl _ _)) | with_reducible exact HK.out _ (Below.refl _ _) | with_reducible exact HK.out _ HBC.out | with_reducible exact HK.out _ (bl_alloc HBC.out _) | with_reducible exact HS6.out | with_reducible exact HS7.out _)
            clear hK K
            try simp only [Act.put, List.setIfInBounds_toArray, List.set_cons_zero, List.set_cons_succ]
            refine wpAnyH_done (by kernel_rfl) ?_ _
            refine NoPanic.normal ?_
            go_wp2_with fail
            go_end0
            have hs6 : w.heap.size ≤ w6.heap.size := Nat.le_trans HBA.out.size HG6.out.size
            have hat : ∀ k, (Value.slice (some ⟨gg, 0, none⟩) (nT + 1) cap6).ownBlock = some k → (Value.slice At nT ct).ownBlock = some k ∨ w.heap.size ≤ k := fun k hk => by
              injection hk with hk
              subst hk
              rcases HAT.out with e | e
              · exact .inl e
              · right; have := HBC.out.size; show w.heap.size ≤ gg; omega
            have hkk : ∀ k, k < w.heap.size → (Value.slice At nT ct).ownBlock ≠ some k → w6.heap[k]? = w.heap[k]? := fun k hk hn => (HG6.out.block k (Nat.lt_of_lt_of_le hk HBA.out.size) (fun e => hn e.symm)).trans (HBA.out.block k hk)
            have hsz : (w6.setCell ⟨R, 1, none⟩ (.slice (some ⟨gg, 0, none⟩) (nT + 1) cap6)).heap.size = w6.heap.size := by simp [World.setCell]
            have hg1 : w1.heap.size ≤ w6.heap.size := Nat.le_trans (by simp) HG6.out.size
            have hRlt := HLT.out
            have k1 : Kept w w6 (fun k => τ k ≠ 0) := (Kept.of_below HBA.out _).then_ (Kept.grown HG6.out (fun k => (Value.slice At nT ct).ownBlock = some k) (fun k e => e)) (fun k _ e => by rw [H.out.tT k e]; omega)
            refine ⟨⟨_, rfl⟩, _, _, _, w1.heap.size, ⟨H.out.setT (.slice (some ⟨gg, 0, none⟩) (nT + 1) cap6) hkk hs6 HO6.out hat, fun k hk hf => ?_, k1.set_ R 1 (fun _ => by rw [H.out.tR]; omega) _, ?_, fun k h1 h2 => ?_, ⟨HBC.out.size, by rw [hsz]; exact hg1⟩⟩⟩
            · by_cases e : (Value.slice (some ⟨gg, 0, none⟩) (nT + 1) cap6).ownBlock = some k
              · rcases hat k e with e2 | e2
                · rw [H.out.tT k e2]; omega
                · omega
              · rw [if_neg e] at hf; exact hf
            · refine HSN.out.keep (fun k h1 h2 => ?_) (by rw [hsz]; exact hg1)
              refine (Below.heap_setCell _ ⟨R, 1, none⟩ _ k (fun e => by have h1' : w.heap.size ≤ k := h1; have e2 : k = R := e; omega)).trans ((HG6.out.block k (Nat.lt_of_lt_of_le h2 (by simp)) (fun e => ?_)).trans ?_)
              · have := (own_lt H.out.ow e.symm).2
                have h1' : w.heap.size ≤ k := h1
                omega
              · exact (bl_alloc (Below.refl w1.heap.size w1) _).block k h2
            · show (if (Value.slice (some ⟨gg, 0, none⟩) (nT + 1) cap6).ownBlock = some k then 3 else τ k) = 0
              rw [if_neg (fun e => by
                injection e with e
                have e : gg = k := e
                rcases HAT.out with e2 | e2
                · have := (own_lt H.out.ow e2).2; omega
                · omega)]
              exact Decidable.byContradiction (fun e => by have := (H.out.tB k e).2; omega)
          exact AllReadyH.nil
        exact AllReadyH.nil
      exact AllReadyH.nil
    exact AllReadyH.nil
  exact AllReadyH.nil
end Go.Proofs.YtimlmekgapdkiaaGreatDoor
