/- Ways over ready()'s one link: plain law. -/
import Derived.Test.YtphjgjcbolmdiaaGreatDoorThrough
namespace Go.Proofs.YtphjgjcbolmdiaaGreatDoor
open Go.RowKit Go.Hw

def oneLink : List Link := [⟨⟨#[97]⟩, ⟨#[98]⟩, 3⟩]
theorem one_step {u v : ByteArray} {m : Nat} (h : (v, m) ∈ stepsAt oneLink u) : m = 3 := by
  obtain ⟨l, hl, h⟩ := mem_steps.1 h
  simp only [oneLink, List.mem_singleton] at hl
  subst hl
  rcases h with ⟨_, _, h⟩ | ⟨_, _, h⟩ <;> exact h.symm
theorem one_walk {u v : ByteArray} {s k : Nat} (h : Walk oneLink u v s k) : s = 3 * k ∧ (k = 0 → u = v) := by
  induction h with
  | here => exact ⟨rfl, fun _ => rfl⟩
  | step _ hm ih => have := one_step hm; exact ⟨by omega, fun h => by omega⟩
theorem one_trail {a v : ByteArray} {ts : List ByteArray} {s : Nat} (h : TrailTo oneLink a ts v s) : s + 3 = 3 * ts.length := by
  induction h with
  | start => rfl
  | step _ hm ih => have := one_step hm; rw [List.length_append, List.length_singleton]; omega
theorem one_ab : Walk oneLink ⟨#[97]⟩ ⟨#[98]⟩ 3 1 := Walk.step (Walk.here _) (mem_steps.2 ⟨⟨⟨#[97]⟩, ⟨#[98]⟩, 3⟩, List.mem_singleton.2 rfl, Or.inl ⟨rfl, rfl, rfl⟩⟩)
theorem one_short {n : Nat} (h : Shortest oneLink ⟨#[97]⟩ ⟨#[98]⟩ n) : n = 3 := by
  obtain ⟨⟨k, hk⟩, hm⟩ := h
  have h1 := hm _ _ one_ab
  obtain ⟨h2, h3⟩ := one_walk hk
  have h4 : k ≠ 0 := fun h => absurd (h3 h) (by decide)
  omega
theorem one_len {ts : List ByteArray} {n : Nat} (h : Shortest oneLink ⟨#[97]⟩ ⟨#[98]⟩ n) (ht : TrailTo oneLink ⟨#[98]⟩ ts ⟨#[97]⟩ n) : n = 3 ∧ ts.length = 2 := by
  have h1 := one_short h
  have h2 := one_trail ht
  exact ⟨h1, by omega⟩
end Go.Proofs.YtphjgjcbolmdiaaGreatDoor
