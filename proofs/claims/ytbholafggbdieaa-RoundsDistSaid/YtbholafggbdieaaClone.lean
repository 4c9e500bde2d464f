/- slices.Clone of values: the library's contract at another instance. -/
import Derived.Test.YtbholafggbdieaaShelf
import Derived.Test.YtbholafggbdieaaMay
import Derived.Shelf.SlicesE.Clone
namespace Go.Proofs.Ytbholafggbdieaa
open Go.RowKit Go.Lib

def cloneV_ren : Go.Shelf.Ren := ⟨fun | 41 => 26 | n => n, fun | 22 => 29 | 23 => 40 | 4 => 4 | n => n, fun | n => n⟩
theorem cloneV_lays : Go.Proofs.SlLaysE0.n41 Try.prog cloneV_ren := {
  mixed := by kernel_rfl
  f41 := ⟨Try.f26.name, by decide, Try.func26.trans (congrArg some (by kernel_rfl))⟩
  t4 := Try.underlying4
  a4 := Try.isAgg4
  z4 := Try.sizeOf4
  v4 := Try.zeroValue4
  t22 := Try.underlying29
  a22 := Try.isAgg29
  z22 := Try.sizeOf29
  v22 := Try.zeroValue29 }

theorem flat_two : ∀ l : List Vl, (l.flatMap encV).length = l.length * 2
  | [] => rfl
  | x :: xs => by have := flat_two xs; simp only [List.flatMap_cons, List.length_append, List.length_cons, this]; simp [encV]; omega
theorem cloneV (b off n c : Nat) (l : List Vl) (w : World) (hl : l.length = n) (hn : n ≤ 100000) (hc : ∀ j u, (l.flatMap encV)[j]? = some u → w.cell? ⟨b, off + j, none⟩ = some u) :
    Calls Try.prog 26 #[.slice (some ⟨b, off, none⟩) n c] w fun e w' => ∃ v', e = .returned v' ∧ w'.ownsRow w.heap.size 40 2 v' n (l.flatMap encV) ∧ v' ≠ .slice none 0 0 ∧ Below w.heap.size w w' := by
  obtain ⟨i0, hi0, hz0, hz1, hz2⟩ := info_parts infoVal
  exact AnyE.slices_Clone cloneV_lays i0 _ 2 16 hi0 hz0 hz1 hz2 rfl (by decide) (fun w => Try.sizeOf40 w) b off n c (l.flatMap encV) w (by rw [← hl]; exact flat_two l) (by unfold maxLen; omega) (by omega) hc (fun u hu => by
    obtain ⟨x, _, hx⟩ := List.mem_flatMap.1 hu
    simp [encV] at hx
    rcases hx with rfl | rfl <;> rfl)
end Go.Proofs.Ytbholafggbdieaa
