/- Put, as a whole. -/
import Derived.Test.YtefjpljjdjecjaaYg
import Derived.Test.YtefjpljjdjecjaaYh
import Derived.Test.YtefjpljjdjecjaaYi
import Derived.Test.YtefjpljjdjecjaaYj
import Derived.Test.YtefjpljjdjecjaaYk
import Derived.Test.YtefjpljjdjecjaaYl
import Derived.Test.YtefjpljjdjecjaaYm
import Derived.Test.YtefjpljjdjecjaaYn
import Derived.Test.YtefjpljjdjecjaaYo
namespace Go.Proofs.Ytefjpljjdjecjaa
open Go.RowKit
theorem xput_any (w : World) (xb : Nat) (p : Pu) (h : XR w xb p) (hw : WF p) (hn : NK p) (k c : Int) :
    Calls Try.prog 25 #[.pointer (some ⟨xb, 0, none⟩), .int .i64 k, .agg (blk c).toArray] w fun e w' => e = .returned (.tuple #[]) ∧ XR w' xb (putP p k c) ∧ Fr (fun k => k = xb) w w' := by
  cases ha : hasK p.a k with
  | true => exact xput_a w xb p h hw hn k c ha
  | false =>
    cases hb : hasK p.b k with
    | true => exact xput_b w xb p h hw hn k c ha hb
    | false =>
      cases hc : hasK p.c k with
      | true => exact xput_c w xb p h hw hn k c ha hb hc
      | false =>
        cases hd : hasK p.d k with
        | true => exact xput_d w xb p h hw hn k c ha hb hc hd
        | false =>
          by_cases h1 : (p.a.length : Int) + p.c.length = p.room
          · by_cases h2 : (p.a.length : Int) < p.room
            · exact xput_n1 w xb p h hw hn k c ha hb hc hd h1 h2
            · exact xput_n2 w xb p h hw hn k c ha hb hc hd h1 h2
          · by_cases h2 : p.room ≤ allP p
            · by_cases h3 : allP p = 2 * p.room
              · exact xput_n3 w xb p h hw hn k c ha hb hc hd h1 h3
              · exact xput_n4 w xb p h hw hn k c ha hb hc hd h1 h2 h3
            · exact xput_n5 w xb p h hw hn k c ha hb hc hd h1 h2
end Go.Proofs.Ytefjpljjdjecjaa
