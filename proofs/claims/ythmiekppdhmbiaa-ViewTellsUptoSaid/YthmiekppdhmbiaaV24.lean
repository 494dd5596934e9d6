/- Folders, messages and ranges that came in, as data. -/
import Derived.Test.YthmiekppdhmbiaaC24T13
import Derived.Test.YthmiekppdhmbiaaOpn
set_option linter.unusedVariables false
namespace Go.Proofs.Ythmiekppdhmbiaa
open Go.Wl Go.Proofs.Ythmiekppdhmbiaa.o
abbrev shHd : List Sh := [.int .u32, .int .u32, .list .str, .str, .int .i64, .bool, .list (.int .u8), .bool, .int .i64]
theorem list_hd {l : List D} {m : Nat} (hm : m ≤ 1048576) (h : ∀ y ∈ l, ∃ ys, y = (Sh.struct shHd).mk ys ∧ Ok (.struct shHd) m ys) : ∃ u : List Hd, l = u.map Hd.D ∧ ∀ h ∈ u, h.ok :=
  list_of l fun y hy => by
    obtain ⟨ys, rfl, ok⟩ := h y hy
    simp only [Ok, OkL] at ok
    obtain ⟨_, _, rfl, ⟨a, rfl, ha⟩, _, _, rfl, ⟨b, rfl, hb⟩, _, _, rfl, ⟨fl, rfl, hl, hf⟩, _, _, rfl, ⟨dt, rfl, _⟩, _, _, rfl, ⟨sz, rfl, _⟩, _, _, rfl, ⟨has, rfl⟩, _, _, rfl, ⟨bd, rfl, hl2, hbd⟩, _, _, rfl, ⟨gone, rfl⟩, _, _, rfl, ⟨used, rfl, _⟩, rfl⟩ := ok
    obtain ⟨a, rfl, _⟩ := i32_nat ha
    obtain ⟨b, rfl, _⟩ := i32_nat hb
    obtain ⟨fl, rfl, _⟩ := list_str hf
    obtain ⟨bd, rfl⟩ := list_u8 hbd
    rw [List.length_map] at hl hl2
    exact ⟨⟨a, b, fl, dt, sz, has, bd, gone, used⟩, rfl, by show fl.length < _; omega, by show bd.length < _; omega⟩
theorem list_rg {l : List D} {m : Nat} (h : ∀ y ∈ l, ∃ ys, y = (Sh.struct [.int .u32, .int .u32]).mk ys ∧ Ok (.struct [.int .u32, .int .u32]) m ys) : ∃ u : List (Nat × Nat), l = u.map rg ∧ ∀ p ∈ u, p.1 < 4294967296 ∧ p.2 < 4294967296 :=
  list_of l fun y hy => by
    obtain ⟨ys, rfl, ok⟩ := h y hy
    simp only [Ok, OkL] at ok
    obtain ⟨_, _, rfl, ⟨a, rfl, ha⟩, _, _, rfl, ⟨b, rfl, hb⟩, rfl⟩ := ok
    obtain ⟨a, rfl, h1⟩ := i32_nat ha
    obtain ⟨b, rfl, h2⟩ := i32_nat hb
    exact ⟨(a, b), rfl, h1, h2⟩
end Go.Proofs.Ythmiekppdhmbiaa

