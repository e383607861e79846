import Derived.Test.YtjmjmnagnbgmfaaGreatDoorS19
/-! token.Quote. -/
namespace Go.Proofs.YtjmjmnagnbgmfaaGreatDoor
open Go.Lib Go.Shelf Go.RowKit

def olds4 : List Value := [.string ⟨#[92]⟩, .string ⟨#[92, 92]⟩, .string ⟨#[34]⟩, .string ⟨#[92, 34]⟩]

set_option maxRecDepth 100000 in
set_option maxHeartbeats 1600000 in
theorem newRepl_calls (q0 c0 : Nat) (w : World) (h : ∀ j v, olds4[j]? = some v → w.cell? ⟨q0, j, none⟩ = some v) :
    Calls Tryz.prog 65 #[.slice (some ⟨q0, 0, none⟩) 4 c0] w fun e w' => ∃ b q c, e = .returned (.pointer (some ⟨b, 0, none⟩)) ∧ Olds w' b q c ∧ q ≠ b ∧ RB w' b 0 0 .nilIface (.slice (some ⟨q, 0, none⟩) 4 c) ∧ Below w.heap.size w w' ∧ w.heap.size ≤ b := by
  have HC := Lib.hid h
  clear h
  obtain ⟨i0, hi, hz0, hz1, hz2⟩ := info_parts info9
  go_enter Tryz.func65, Tryz.ntmps65
  go_wp2_with (at_builtin; refine wpList_append_own _ rfl (.const (.slice none 0 0)) (.tmp 8) 32 rfl w.heap.size 9 i0 _ 1 16 Tryz.underlying32 hi hz0 hz1 hz2 rfl (by omega) _ 0 [] rfl ?own ⟨q0, 0, none⟩ 4 c0 olds4 rfl rfl ?cs ?oc ?c3 ?c4 ?c5 ?_)
  case own => exact ⟨rfl, .inl ⟨rfl, rfl⟩⟩
  case cs =>
    intro j u hj
    have := HC.out j u hj
    rw [show (⟨q0, 0, none⟩ : Addr).add j = ⟨q0, j, none⟩ by unfold Addr.add; split <;> simp_all]
    exact this
  case oc =>
    intro u hu
    simp only [olds4, List.mem_cons, List.not_mem_nil, or_false] at hu
    rcases hu with rfl | rfl | rfl | rfl <;> rfl
  case c3 => unfold maxLen; omega
  case c4 => omega
  case c5 => exact Nat.le_refl _
  intro v' w1 hown hg _
  have hB1 : Below w.heap.size w w1 := (Below.refl _ w).grown hg (Nat.le_refl _) (fun k hk => by cases hk)
  rcases hown.2 with h0 | ⟨q, c, cur, rfl, hqb, hq, hnc, hcm, hcs, htake⟩
  · simp at h0
  · have hcur : ∀ j v, olds4[j]? = some v → w1.cell? ⟨q, j, none⟩ = some v := by
      intro j v hj
      have hlt : j < 4 := (List.getElem?_eq_some_iff.1 hj).1
      have ht : cur.toList.take 4 = olds4 := htake
      simp only [World.cell?, hq]
      rw [← ht, List.getElem?_take_of_lt hlt, Array.getElem?_toList] at hj
      simpa using hj
    have HCUR := Lib.hid hcur
    have hql : q < w1.heap.size := (Array.getElem?_eq_some_iff.1 hq).1
    have HB1 := Lib.hid hB1
    clear hg hown hi hz0 hz1 hz2 hq hnc hcm hcs htake hcur hB1
    go_wp2
    go_ret
    have hnew := heap_alloc_new w1 (.cells #[.int .u32 0, .int .i32 0, .int .u32 0, .nilIface, .slice (some ⟨q, 0, none⟩) 4 c] 103)
    have hrb : RB (w1.alloc (.cells #[.int .u32 0, .int .i32 0, .int .u32 0, .nilIface, .slice (some ⟨q, 0, none⟩) 4 c] 103)) w1.heap.size 0 0 .nilIface (.slice (some ⟨q, 0, none⟩) 4 c) := hnew
    have hcell : ∀ j v, olds4[j]? = some v → (w1.alloc (.cells #[.int .u32 0, .int .i32 0, .int .u32 0, .nilIface, .slice (some ⟨q, 0, none⟩) 4 c] 103)).cell? ⟨q, j, none⟩ = some v := fun j v hj => (World.cell?_alloc_lt w1 _ _ hql).trans (HCUR.out j v hj)
    exact ⟨w1.heap.size, q, c, rfl, ⟨hrb.lt, by simp; omega, hrb.c4, hcell 0 _ rfl, hcell 1 _ rfl, hcell 2 _ rfl, hcell 3 _ rfl⟩, by omega, hrb, HB1.out.alloc HB1.out.size _, HB1.out.size⟩

set_option maxRecDepth 100000 in
set_option maxHeartbeats 1600000 in
theorem replace_calls (b q c : Nat) (l : List UInt8) (w : World) (h : Olds w b q c) (hbq : q ≠ b) (hr : RB w b 0 0 .nilIface (.slice (some ⟨q, 0, none⟩) 4 c)) (hl : l.length ≤ 1000000) :
    Calls Tryz.prog 66 #[.pointer (some ⟨b, 0, none⟩), .string (sOf l)] w fun e w' => e = .returned (.string (sOf (escB l))) ∧ Below b w w' := by
  have HO := Lib.hid h
  have HR := Lib.hid hr
  have hlt := hr.lt
  clear h hr
  have hmf : ∀ (fn : Fn) (first cap : Array Value) (w : World), (Instr.makeFunc fn first cap).run Tryz.prog w = .ok (.func fn first cap) w := fun _ _ _ _ => rfl
  go_enter Tryz.func66, Tryz.ntmps66
  go_wp2_with fail
  refine (do_calls b q c w HO.out hbq HR.out).mono ?_
  rintro e w1 ⟨rfl, z, hd⟩
  have HD := Lib.hid hd
  have c3 := hd.rb.c3
  have hme : ∀ W : World, (method 295 136 (.pointer (some ⟨z, 0, none⟩)) "Replace").run Tryz.prog W = .ok (160, .pointer (some ⟨z, 0, none⟩)) W := fun W => by kernel_rfl
  clear hd
  go_wp2_with fail
  refine (repl_calls (b + 1) z l w1 HD.out.rdy hl).mono ?_
  rintro e w2 ⟨rfl, hb2⟩
  have HB := Lib.hid (HD.out.below.trans (hb2.mono (Nat.le_of_lt HD.out.rb.lt)))
  clear hb2
  go_wp2_with fail
  go_ret
  exact ⟨rfl, HB.out⟩

theorem sOf_app (a b : List UInt8) : sOf a ++ sOf b = sOf (a ++ b) := by
  apply ByteArray.ext
  apply Array.ext'
  simp [sOf]

/-- A text in quotes. -/
def quoteB (l : List UInt8) : List UInt8 := [34] ++ escB l ++ [34]

set_option maxRecDepth 100000 in
set_option maxHeartbeats 1600000 in
theorem quote_calls (l : List UInt8) (w : World) (hl : l.length ≤ 1000000) :
    Calls Tryz.prog 43 #[.string (sOf l)] w fun e w' => e = .returned (.string (sOf (quoteB l))) ∧ Below w.heap.size w w' := by
  go_enter Tryz.func43, Tryz.ntmps43
  go_wp2_with fail
  refine (newRepl_calls w.heap.size 4 _ ?cells).mono ?_
  case cells =>
    intro j v hj
    have h := heap_alloc_new w (.cells #[.string ⟨#[92]⟩, .string ⟨#[92, 92]⟩, .string ⟨#[34]⟩, .string ⟨#[92, 34]⟩] 9)
    simp only [World.cell?, h]
    match j, hj with
    | 0, hj => simpa [olds4] using hj
    | 1, hj => simpa [olds4] using hj
    | 2, hj => simpa [olds4] using hj
    | 3, hj => simpa [olds4] using hj
    | (k + 4), hj => simp [olds4] at hj
  rintro e w1 ⟨b, q, c, rfl, hO, hqb, hR, hB, hb⟩
  have HO := Lib.hid hO
  have HR := Lib.hid hR
  have HB : Hid (Below w.heap.size w w1) := ((Below.refl _ w).alloc (Nat.le_refl _) _).trans (hB.mono (by simp))
  have hb' : w.heap.size ≤ b := by simp at hb; omega
  clear hO hR hB hb
  go_wp2_with fail
  refine (replace_calls b q c l w1 HO.out hqb HR.out hl).mono ?_
  rintro e w2 ⟨rfl, hb2⟩
  have HB2 := Lib.hid (HB.out.trans (hb2.mono hb'))
  clear hb2
  have hsz : (sOf (escB l)).size ≤ 3000000 := by
    rw [size_sOf, escB_len]
    have := ext_le l
    omega
  have h1 : ¬ 9223372036854775807 < 1 + (sOf (escB l)).size := by omega
  have h2 : ¬ 9223372036854775807 < 1 + (sOf (escB l)).size + 1 := by omega
  go_wp2_with fail
  go_ret
  refine ⟨?_, HB2.out⟩
  rw [quoteB, ← sOf_app, ← sOf_app]
  rfl
end Go.Proofs.YtjmjmnagnbgmfaaGreatDoor
