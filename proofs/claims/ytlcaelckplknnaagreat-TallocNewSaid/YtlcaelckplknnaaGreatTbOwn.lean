/- Plain laws: slices that are appended to. -/
import Derived.Test.YtlcaelckplknnaaGreatTbFrame
set_option linter.unusedVariables false
set_option linter.unusedSimpArgs false
namespace Go.TB
open Go Go.SX

/-- a slice whose cells are xs, in a block of its own from its head on -/
def Own (w : World) (s : Sl) (sz : Nat) (xs : List Value) : Prop :=
  s.len * sz = xs.length ∧ ((s.a = none ∧ s.cap = 0 ∧ xs = []) ∨ ∃ b rest, s.a = some ⟨b, 0, none⟩ ∧ cel w b = some (xs ++ rest) ∧ frz w b = (0, 0) ∧ (xs ++ rest).length = s.cap * sz)
/-- the block of a slice -/
def inB (s : Sl) (b : Nat) : Prop := ∃ a, s.a = some a ∧ a.block = b

theorem Own.nil (w : World) (sz : Nat) : Own w ⟨none, 0, 0⟩ sz [] := ⟨by simp, .inl ⟨rfl, rfl, rfl⟩⟩
theorem Own.lt {w : World} {s : Sl} {sz : Nat} {xs : List Value} (h : Own w s sz xs) {b : Nat} (hb : inB s b) : b < w.heap.size := by
  obtain ⟨a, ha, rfl⟩ := hb
  rcases h.2 with ⟨h1, _⟩ | ⟨b, rest, h1, h2, _⟩
  · rw [h1] at ha; cases ha
  · rw [h1] at ha; obtain rfl := Option.some.inj ha; exact cel_lt h2
theorem Own.fr {S : Nat → Prop} {w w' : World} {s : Sl} {sz : Nat} {xs : List Value} (h : Own w s sz xs) (hf : Fr S w w') (hs : ∀ b, inB s b → ¬ S b) : Own w' s sz xs := by
  refine ⟨h.1, ?_⟩
  rcases h.2 with h1 | ⟨b, rest, h1, h2, h3, h4⟩
  · exact .inl h1
  · have hn : ¬ S b := hs b ⟨_, h1, rfl⟩
    exact .inr ⟨b, rest, h1, hf.cel_of h2 hn, by rw [hf.frz (cel_lt h2) hn]; exact h3, h4⟩
theorem Own.of_new {w : World} {b : Nat} {xs : List Value} {n sz : Nat} (hb : cel w b = some xs) (hf : frz w b = (0, 0)) (hl : xs.length = n * sz) : Own w ⟨some ⟨b, 0, none⟩, n, n⟩ sz xs :=
  ⟨hl.symm, .inr ⟨b, [], rfl, by simpa using hb, hf, by simpa using hl⟩⟩

/-- a slice whose cells are read -/
def Reads (w : World) (x : Sl) (sz : Nat) (news : List Value) : Prop :=
  news.length = x.len * sz ∧ ((x.a = none ∧ news = []) ∨ ∃ b o l, x.a = some ⟨b, o, none⟩ ∧ cel w b = some l ∧ o + x.len * sz ≤ l.length ∧ (l.drop o).take (x.len * sz) = news)
theorem Own.reads {w : World} {s : Sl} {sz : Nat} {xs : List Value} (h : Own w s sz xs) : Reads w s sz xs := by
  refine ⟨h.1.symm, ?_⟩
  rcases h.2 with ⟨h1, _, h3⟩ | ⟨b, rest, h1, h2, _, h4⟩
  · exact .inl ⟨h1, h3⟩
  · have := h.1
    exact .inr ⟨b, 0, _, h1, h2, by simp at h4 ⊢; omega, by simp [this]⟩
theorem Reads.fr {S : Nat → Prop} {w w' : World} {s : Sl} {sz : Nat} {xs : List Value} (h : Reads w s sz xs) (hf : Fr S w w') (hs : ∀ b, inB s b → ¬ S b) : Reads w' s sz xs := by
  refine ⟨h.1, ?_⟩
  rcases h.2 with h1 | ⟨b, o, l, h1, h2, h3, h4⟩
  · exact .inl h1
  · exact .inr ⟨b, o, l, h1, hf.cel_of h2 (hs b ⟨_, h1, rfl⟩), h3, h4⟩

theorem rdS_of {w : World} {x : Sl} {sz : Nat} {news : List Value} {k : List Value → M} (h : Reads w x sz news) (hk : k news w) : rdS x.a x.len sz k w := by
  rcases h.2 with ⟨h1, h2⟩ | ⟨b, o, l, h1, h2, h3, h4⟩
  · rw [h1]; show k [] w; rw [← h2]; exact hk
  · rw [h1]; exact rdN_of h2 h3 (by rw [h4]; exact hk)

theorem lay_append (xs ys rest : List Value) (h : ys.length ≤ rest.length) : lay (xs ++ rest) xs.length ys = xs ++ ys ++ rest.drop ys.length := by
  apply List.ext_getElem?
  intro j
  rw [lay_get]
  by_cases h1 : xs.length ≤ j ∧ j < xs.length + ys.length ∧ j < (xs ++ rest).length
  · rw [if_pos h1, List.getElem?_append_left (by simp; omega), List.getElem?_append_right (by omega)]
  · rw [if_neg h1]
    simp at h1
    by_cases h2 : j < xs.length
    · rw [List.getElem?_append_left h2, List.getElem?_append_left (by simp; omega), List.getElem?_append_left h2]
    · rw [List.getElem?_append_right (by omega)]
      by_cases h3 : j < xs.length + ys.length
      · have := h1 (by omega) h3
        omega
      · rw [List.getElem?_append_right (by simp; omega), List.getElem?_drop]
        congr 1
        simp; omega

/-- an append: the slice that comes of it -/
theorem apd_own {e sz bytes : Nat} {z : List Value} {s x : Sl} {k : Sl → M} {w : World} {xs news : List Value} (hsz : 0 < sz) (hz : z.length = sz) (hby : 0 < bytes) (hO : Own w s sz xs) (hx : Reads w x sz news) (hn : news.all ok1 = true)
    (hb : (s.len + x.len) * bytes ≤ 2 ^ 46) (hl : s.len + x.len < 2 ^ 46)
    (hk : ∀ (r : Sl) (w' : World), Own w' r sz (xs ++ news) → r.len = s.len + x.len → Fr (inB s) w w' → (∀ b, inB r b → inB s b ∨ w.heap.size ≤ b) → k r w') : apd e sz bytes z s x k w := by
  unfold apd
  have hlen : (s.len + x.len) * sz = (xs ++ news).length := by rw [Nat.add_mul, hO.1, ← hx.1]; simp
  by_cases hc : s.len + x.len ≤ s.cap
  · simp only [hc, if_true]
    refine rdS_of hx ?_
    rcases hO.2 with ⟨h1, h2, h3⟩ | ⟨b, rest, h1, h2, h3, h4⟩
    · rw [h1]
      have hx0 : x.len = 0 := by omega
      have hnil : news = [] := List.length_eq_zero_iff.1 (by rw [hx.1, hx0]; simp)
      refine ⟨hnil, hk _ w ?_ rfl (Fr.refl _ w) (fun b hb => by obtain ⟨a, ha, _⟩ := hb; cases ha)⟩
      subst hnil
      refine ⟨by rw [hlen], .inl ⟨rfl, h2, by simp [h3]⟩⟩
    · rw [h1]
      simp only [add_mk, Nat.zero_add]
      have hrl : news.length ≤ rest.length := by
        have h5 : (s.len + x.len) * sz ≤ s.cap * sz := Nat.mul_le_mul_right _ hc
        rw [hlen, ← h4] at h5
        simpa using h5
      refine stN_of h2 (by rw [hO.1]; simp; omega) h3 hn (hk _ _ ?_ rfl ?_ ?_)
      · refine ⟨hlen, .inr ⟨b, rest.drop news.length, rfl, ?_, by rw [frz_setN]; exact h3, ?_⟩⟩
        · rw [cel_setN, if_pos rfl, h2]
          simp only [Option.map_some, Nat.add_zero, hO.1]
          rw [lay_append xs news rest hrl]
        · rw [← h4]; simp; omega
      · exact Fr.setN (S := inB s) (a := ⟨b, s.len * sz, none⟩) ⟨_, h1, rfl⟩ rfl _ _ _
      · rintro b' ⟨a, ha, rfl⟩
        obtain rfl := Option.some.inj ha
        exact .inl ⟨_, h1, rfl⟩
  · simp only [hc, if_false]
    refine rdS_of hO.reads (rdS_of hx ⟨⟨by omega, hl, hby⟩, fun c hc1 hc2 => hk _ _ ?_ rfl ?_ ?_⟩)
    · refine ⟨hlen, .inr ⟨w.heap.size, repV (c - (s.len + x.len)) z, rfl, ?_, ?_, ?_⟩⟩
      · rw [show w.heap.size = w.drew.heap.size from rfl, cel_alloc, if_pos rfl]
      · rw [show w.heap.size = w.drew.heap.size from rfl, frz_alloc, if_pos rfl]
      · rw [List.length_append, ← hlen, repV_length, hz, ← Nat.add_mul]
        show (s.len + x.len + (c - (s.len + x.len))) * sz = c * sz
        congr 1; omega
    · exact (Fr.drew _ w).trans (Fr.alloc _ _ _)
    · rintro b' ⟨a, ha, rfl⟩
      obtain rfl := Option.some.inj ha
      exact .inr (Nat.le_refl _)

end Go.TB
