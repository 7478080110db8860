/- seat C: two sorted parts become one, in place -/
import Derived.Test.YtdpnpjficcciiaaSdA
import Derived.Test.YtdpnpjficcciiaaSdB
import Derived.Test.YtdpnpjficcciiaaSdC
namespace Go.Proofs.Ytdpnpjficcciiaa
set_option linter.unusedVariables false
set_option linter.unusedSimpArgs false
open Go.RowKit Go.Cas
theorem c_sym {B g cap n : Nat} {w0 : World} (hn : n ≤ 1000) : ∀ (d : Nat) (w : World) (L : List Nd) (a m b : Nat), b - a ≤ d → a < m → m < b → b ≤ n → SOk B g cap n w0 L w → SpB L → Srt Nd.sp L a m → Srt Nd.sp L m b →
    Calls Try.prog 47 #[.slice (some ⟨g, 0, none⟩) n cap, .int .i64 a, .int .i64 m, .int .i64 b, cmpV] w (SRet B g cap n w0 (fun L' => SM Nd.sp L L' a b ∧ Srt Nd.sp L' a b)) := by
  intro d
  induction d with
  | zero => intro w L a m b h1 h2 h3; omega
  | succ d ih =>
    intro w L a m b hd ham hmb hb h hs hA hB
    by_cases hma : m - a = 1
    · exact c_symA hn w L a m b ham hmb hb h hs hA hB hma
    · by_cases hbm : b - m = 1
      · exact c_symB hn w L a m b ham hmb hb h hs hA hB hma hbm
      · exact c_symC hn d ih w L a m b ham hmb hb h hs hA hB hd hma hbm
end Go.Proofs.Ytdpnpjficcciiaa
