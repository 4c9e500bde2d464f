/- paths.Weak: the root of a vertex, as the code finds it. -/
import Derived.Test.YtbholafggbdieaaWeakLaw
import Derived.Test.YtbholafggbdieaaZones
namespace Go.Proofs.Ytbholafggbdieaa
open Go.RowKit

def natV (x : Nat) : Value := .int .i64 (x : Int)
def upV (up : List Nat) : Array Value := (up.map natV).toArray
theorem upV_at {up : List Nat} {k : Nat} (hk : k < up.length) : (upV up)[k]? = some (.int .i64 (upAt up k : Nat)) := by
  unfold upV upAt
  rw [List.getElem?_toArray, List.getElem?_map, List.getElem?_eq_getElem hk]
  rfl
theorem upV_set (up : List Nat) (k x : Nat) : (upV up).setIfInBounds k (.int .i64 (x : Int)) = upV (up.set k x) := by
  unfold upV; simp [natV, List.map_set]

set_option maxRecDepth 10000 in
set_option maxHeartbeats 1000000 in
theorem wroot_any (up : List Nat) (v n p g c : Nat) (w : World) (hwf : WfUp up) (hlen : up.length = n) (hv : v < n)
    (hp : w.cell? ⟨p, 0, none⟩ = some (.slice (some ⟨g, 0, none⟩) n c)) (hb : Bk w g 3 (upV up)) :
    Calls Try.prog 36 #[.int .i64 v, .pointer (some ⟨p, 0, none⟩)] w fun e w' => e = .returned (.int .i64 (rootG up v : Nat)) ∧ w' = w := by
  have HW := Lib.hid hwf; have HB := Lib.hid hb; have HL := Lib.hid hlen
  clear hwf hb hlen
  go_enter Try.func36, Try.ntmps36
  go_wp2
  go_loop [0] (fun i => ∃ u : Nat, u < n ∧ i = .int .i64 u ∧ Hid (rootG up u = rootG up v)) (fun i => (intOf i).toNat)
  case atStart => exact ⟨v, hv, rfl, rfl⟩
  case round =>
    obtain ⟨u, hu, rfl, hr⟩ := hrel
    have c0 : w.cell? ⟨g, u, none⟩ = some (.int .i64 (upAt up u : Nat)) := by rw [HB.out.cell, upV_at (by rw [HL.out]; exact hu)]
    have hle := HW.out u
    by_cases he : upAt up u = u
    · rw [he] at c0
      have FIN : Hid (rootG up v = u) := by unfold Hid; rw [← hr.out]; exact rootG_self HW.out he
      have HE := Lib.hid he
      clear hr he hle
      go_wp2
      go_ret
      exact ⟨by rw [FIN.out]; rfl, rfl⟩
    · have NX : Hid (rootG up (upAt up u) = rootG up v) := (rootG_up HW.out u).trans hr.out
      have t1 : ((upAt up u : Int) != (u : Int)) = true := by rw [bne_iff_ne]; omega
      have hlt : upAt up u < u := by omega
      clear hr he hle
      generalize upAt up u = x at *
      go_wp2
      go_round
      case rel => exact ⟨x, by omega, rfl, NX.out⟩
      case measure => simp [intOf]; omega
end Go.Proofs.Ytbholafggbdieaa
