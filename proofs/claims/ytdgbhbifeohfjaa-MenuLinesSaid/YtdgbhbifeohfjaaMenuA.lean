/- Walks of the menu's functions. -/
import Derived.Test.YtdgbhbifeohfjaaRows
import Derived.Test.YtdgbhbifeohfjaaMenuP
import Derived.Test.YtdgbhbifeohfjaaKit
namespace Go.Proofs.Ytdgbhbifeohfjaa
open Go.RowKit

def itemCells : Array Value := #[.int .u8 46, .int .i64 1, .int .i64 1, .string ⟨#[108, 101, 97, 118, 101, 32, 116, 104, 101, 32, 99, 111, 110, 115, 111, 108, 101]⟩, .int .u8 97, .int .i64 2, .int .i64 2, .string ⟨#[119, 114, 105, 116, 101, 44, 32, 111, 114, 32, 119, 97, 105, 116, 32, 116, 111]⟩, .int .u8 98, .int .i64 3, .int .i64 2, .string ⟨#[119, 114, 105, 116, 101, 32, 105, 110, 32, 112, 108, 97, 99, 101, 32, 111, 102, 32, 111, 110, 101, 32, 119, 104, 111, 32, 109, 97, 121, 32, 100, 111, 32, 108, 101, 115, 115]⟩, .int .u8 102, .int .i64 4, .int .i64 3, .string ⟨#[119, 114, 105, 116, 101, 32, 105, 110, 32, 112, 108, 97, 99, 101, 32, 111, 102, 32, 119, 104, 111, 101, 118, 101, 114, 32, 100, 111, 101, 115]⟩, .int .u8 115, .int .i64 5, .int .i64 1, .string ⟨#[108, 111, 111, 107, 32, 111, 110]⟩, .int .u8 114, .int .i64 6, .int .i64 1, .string ⟨#[115, 104, 111, 119, 32, 116, 104, 101, 32, 108, 97, 115, 116, 32, 108, 105, 110, 101, 115]⟩, .int .u8 119, .int .i64 7, .int .i64 1, .string ⟨#[108, 105, 115, 116, 32, 119, 104, 111, 32, 105, 115, 32, 116, 104, 101, 114, 101]⟩, .int .u8 105, .int .i64 8, .int .i64 1, .string ⟨#[116, 101, 108, 108, 32, 104, 111, 119, 32, 116, 104, 101, 32, 99, 111, 110, 115, 111, 108, 101, 32, 105, 115]⟩, .int .u8 100, .int .i64 9, .int .i64 3, .string ⟨#[116, 117, 114, 110, 32, 116, 104, 101, 32, 108, 105, 110, 101, 32, 111, 102, 102]⟩, .int .u8 117, .int .i64 10, .int .i64 3, .string ⟨#[116, 117, 114, 110, 32, 116, 104, 101, 32, 108, 105, 110, 101, 32, 111, 110]⟩, .int .u8 108, .int .i64 11, .int .i64 3, .string ⟨#[111, 112, 101, 110, 32, 116, 104, 101, 32, 108, 111, 103, 32, 97, 103, 97, 105, 110]⟩, .int .u8 101, .int .i64 13, .int .i64 2, .string ⟨#[115, 101, 110, 100, 32, 116, 104, 101, 32, 101, 115, 99, 97, 112, 101, 32, 105, 116, 115, 101, 108, 102]⟩, .int .u8 63, .int .i64 14, .int .i64 1, .string ⟨#[108, 105, 115, 116, 32, 97, 108, 108, 32, 107, 101, 121, 115]⟩]

set_option maxHeartbeats 400000 in
theorem items_any (w : World) : Calls Try.prog 34 #[] w fun e w' => e = .returned (.slice (some ⟨w.heap.size, 0, none⟩) 13 13) ∧ w' = w.alloc (.cells itemCells 65) := by
  go_enter Try.func34, Try.ntmps34
  go_wp2
  go_ret
  exact ⟨rfl, rfl⟩

theorem item_cell (k : Nat) (h : k < 13) : itemCells[k * 4]? = some (.int .u8 ((mAt k).key : Int)) ∧ itemCells[k * 4 + 1]? = some (.int .i64 ((mAt k).act : Int)) ∧ itemCells[k * 4 + 2]? = some (.int .i64 ((mAt k).level : Int)) ∧ itemCells[k * 4 + 3]? = some (.string ⟨(mAt k).says.toArray⟩) := by
  rcases (by omega : k = 0 ∨ k = 1 ∨ k = 2 ∨ k = 3 ∨ k = 4 ∨ k = 5 ∨ k = 6 ∨ k = 7 ∨ k = 8 ∨ k = 9 ∨ k = 10 ∨ k = 11 ∨ k = 12) with rfl | rfl | rfl | rfl | rfl | rfl | rfl | rfl | rfl | rfl | rfl | rfl | rfl <;> exact ⟨rfl, rfl, rfl, rfl⟩

/-- The items lie in block b. -/
theorem item_at (w w' : World) (hb : Below (w.heap.size + 1) (w.alloc (.cells itemCells 65)) w') (k : Nat) (h : k < 13) :
    w'.cell? ⟨w.heap.size, k * 4, none⟩ = some (.int .u8 ((mAt k).key : Int)) ∧ w'.cell? ⟨w.heap.size, k * 4 + 1, none⟩ = some (.int .i64 ((mAt k).act : Int)) ∧ w'.cell? ⟨w.heap.size, k * 4 + 2, none⟩ = some (.int .i64 ((mAt k).level : Int)) ∧ w'.cell? ⟨w.heap.size, k * 4 + 3, none⟩ = some (.string ⟨(mAt k).says.toArray⟩) := by
  obtain ⟨c0, c1, c2, c3⟩ := item_cell k h
  refine ⟨?_, ?_, ?_, ?_⟩
  · rw [hb.cell (by simp), World.cell?_alloc_mark]; exact c0
  · rw [hb.cell (by simp), World.cell?_alloc_mark]; exact c1
  · rw [hb.cell (by simp), World.cell?_alloc_mark]; exact c2
  · rw [hb.cell (by simp), World.cell?_alloc_mark]; exact c3

end Go.Proofs.Ytdgbhbifeohfjaa
