/-
  THE ABSTRACT MACHINE, part 34: rows of lists, each its own.
-/
import Derived.Test.YtmocplkpnickgaaAmRep
namespace Go.Proofs.Ytmocplkpnickgaa.Am
open Go
set_option linter.unusedVariables false
set_option linter.unusedSimpArgs false

def Fresh (n : Nat) (v : AVal) : Prop := ∀ id, v.sid = some id → n ≤ id
theorem Fresh.le {n m : Nat} {v : AVal} (h : Fresh n v) (hm : m ≤ n) : Fresh m v := fun id hid => Nat.le_trans hm (h id hid)
theorem Fresh.nil (n : Nat) : Fresh n .nilslice := fun id h => by cases h

/-- a row of lists: the row, and each of its lists, is its own, and made since lo; es: the lists as values; ps: what they hold -/
structure ORows (σ : Store) (lo sz : Nat) (l : AVal) (es : List AVal) (ps : List (List AVal)) : Prop where
  row : Own σ 1 l es
  len : es.length = ps.length
  one : ∀ (i : Nat) (e : AVal) (p : List AVal), es[i]? = some e → ps[i]? = some p → Own σ sz e p
  frs : ∀ (i : Nat) (e : AVal), es[i]? = some e → Fresh lo e
  frl : Fresh lo l
  apart : ∀ (i j : Nat) (e e' : AVal) (id : Nat), es[i]? = some e → es[j]? = some e' → e.sid = some id → e'.sid = some id → i = j
  off : ∀ (i : Nat) (e : AVal) (id : Nat), es[i]? = some e → e.sid = some id → l.sid ≠ some id
  lit : ∀ (i : Nat) (e : AVal), es[i]? = some e → NoLit e
  litl : NoLit l

theorem ORows.nil (σ : Store) (lo sz : Nat) : ORows σ lo sz .nilslice [] [] :=
  ⟨Own.nil _ _, rfl, fun i e p h => by simp at h, fun i e h => by simp at h, Fresh.nil _, fun i j e e' id h => by simp at h, fun i e id h => by simp at h, fun i e h => by simp at h, trivial⟩

theorem ORows.lt {σ : Store} {lo sz : Nat} {l : AVal} {es : List AVal} {ps : List (List AVal)} (h : ORows σ lo sz l es ps) {i : Nat} {e : AVal} (hi : es[i]? = some e) {id : Nat} (hid : e.sid = some id) : id < σ.length := by
  have hlt := (List.getElem?_eq_some_iff.1 hi).1
  have := h.one i e (ps[i]'(by rw [← h.len]; exact hlt)) hi (List.getElem?_eq_getElem _)
  exact this.sl.lt hid

theorem ORows.grow {σ σ' : Store} {lo sz : Nat} {l : AVal} {es : List AVal} {ps : List (List AVal)} (h : ORows σ lo sz l es ps) (g : Grows σ σ') : ORows σ' lo sz l es ps :=
  ⟨h.row.grow g, h.len, fun i e p h1 h2 => (h.one i e p h1 h2).grow g, h.frs, h.frl, h.apart, h.off, h.lit, h.litl⟩

theorem ORows.push {σ σ1 : Store} {lo sz : Nat} {l : AVal} {es : List AVal} {ps : List (List AVal)} (h : ORows σ lo sz l es ps) (hlo : lo ≤ σ.length) (g : Grows σ σ1) {e : AVal} {p : List AVal} (he : Own σ1 sz e p) (fe : Fresh σ.length e) (le : NoLit e)
    (bytes : Nat) (hb : (es.length + 1) * bytes ≤ 70368744177664) :
    ∃ l' σ2, appendV σ1 1 bytes l [e] = some (l', σ2) ∧ ORows σ2 lo sz l' (es ++ [e]) (ps ++ [p]) ∧ Keeps (fun i => lo ≤ i) σ1 σ2 := by
  obtain ⟨l', σ2, h1, h2, h3, h4, h5⟩ := (h.row.grow g).append [e] bytes hb
  have old : ∀ (i : Nat) (x : AVal), (es ++ [e])[i]? = some x → (es[i]? = some x ∧ i < es.length) ∨ (i = es.length ∧ x = e) := by
    intro i x hx
    rw [List.getElem?_append] at hx
    split at hx
    · rename_i hlt; exact .inl ⟨hx, hlt⟩
    · rename_i hlt
      rw [List.getElem?_singleton] at hx
      split at hx
      · injection hx with hx; exact .inr ⟨by omega, hx.symm⟩
      · cases hx
  have hll : ∀ id, l.sid = some id → id < σ.length := fun id hid => h.row.sl.lt hid
  have hx1 : ∀ (i : Nat) (x : AVal) (id : Nat), (es ++ [e])[i]? = some x → x.sid = some id → id < σ1.length ∧ l.sid ≠ some id := by
    intro i x id hx hid
    rcases old i x hx with ⟨hx, _⟩ | ⟨_, rfl⟩
    · exact ⟨Nat.lt_of_lt_of_le (h.lt hx hid) g.1, h.off i x id hx hid⟩
    · exact ⟨he.sl.lt hid, fun hl => by have := fe id hid; have := hll id hl; omega⟩
  refine ⟨l', σ2, h1, ⟨h2, by simp [h.len], ?_, ?_, ?_, ?_, ?_, ?_, h5 (.inr (by simp))⟩, h3.mono fun i hi hs => h.frl i hs⟩
  · intro i x q hx hq
    refine Own.keeps (σ := σ1) ?_ h3 fun id hid => (hx1 i x id hx hid).2
    rcases old i x hx with ⟨hx, hlt⟩ | ⟨rfl, rfl⟩
    · rw [List.getElem?_append_left (by rw [← h.len]; exact hlt)] at hq
      exact (h.one i x q hx hq).grow g
    · rw [h.len, List.getElem?_append_right (Nat.le_refl _), Nat.sub_self] at hq
      simp at hq; subst hq; exact he
  · intro i x hx
    rcases old i x hx with ⟨hx, _⟩ | ⟨_, rfl⟩
    · exact h.frs i x hx
    · exact fe.le hlo
  · intro id hid
    rcases h4 id hid with hh | hh
    · exact h.frl id hh
    · have := g.1; omega
  · intro i j x y id hx hy hxi hyi
    rcases old i x hx with ⟨hx', hil⟩ | ⟨hi, hxe⟩ <;> rcases old j y hy with ⟨hy', hjl⟩ | ⟨hj, hye⟩
    · exact h.apart i j x y id hx' hy' hxi hyi
    · rw [hye] at hyi; have := h.lt hx' hxi; have := fe id hyi; omega
    · rw [hxe] at hxi; have := h.lt hy' hyi; have := fe id hxi; omega
    · omega
  · intro i x id hx hid hl
    obtain ⟨k1, k2⟩ := hx1 i x id hx hid
    rcases h4 id hl with hh | hh
    · exact k2 hh
    · omega
  · intro i x hx
    rcases old i x hx with ⟨hx, _⟩ | ⟨_, rfl⟩
    · exact h.lit i x hx
    · exact le

theorem lit_elems (σ : Store) (sz : Nat) (es : List AVal) (n : Nat) (h : es.length = n) : elems sz (σ ++ [.arr sz es 0 0]) (.slice sz σ.length 0 0 n (some n)) = some es := by
  subst h; simp

/-- bytes as elements -/
def B (bs : List UInt8) : List AVal := bs.map fun b => .int .u8 b.toNat
theorem B_len (bs : List UInt8) : (B bs).length = bs.length := by simp [B]
theorem B_get (bs : List UInt8) (i : Nat) (h : i < (B bs).length) : (B bs)[i] = .int .u8 (bs[i]'(by simpa [B] using h)).toNat := by simp [B]
theorem B_drop (bs : List UInt8) (n : Nat) : (B bs).drop n = B (bs.drop n) := by simp [B, List.map_drop]
theorem B_take (bs : List UInt8) (n : Nat) : (B bs).take n = B (bs.take n) := by simp [B, List.map_take]
theorem B_app (a b : List UInt8) : B a ++ B b = B (a ++ b) := by simp [B]

theorem B_inj {a b : List UInt8} (h : B a = B b) : a = b := by
  have e : ∀ (a b : UInt8), AVal.int .u8 a.toNat = AVal.int .u8 b.toNat → a = b := fun a b h => by
    injection h with _ h
    exact UInt8.toNat_inj.1 (by omega)
  exact List.map_inj_right (fun x y h => e x y h) |>.1 h



/-- a row of lists, to be looked at -/
structure SRows (σ : Store) (sz : Nat) (l : AVal) (es : List AVal) (ps : List (List AVal)) : Prop where
  row : SlOf σ 1 l es
  len : es.length = ps.length
  one : ∀ (i : Nat) (e : AVal) (p : List AVal), es[i]? = some e → ps[i]? = some p → SlOf σ sz e p

theorem ORows.srows {σ : Store} {lo sz : Nat} {l : AVal} {es : List AVal} {ps : List (List AVal)} (h : ORows σ lo sz l es ps) : SRows σ sz l es ps :=
  ⟨h.row.sl, h.len, fun i e p h1 h2 => (h.one i e p h1 h2).sl⟩
theorem SRows.grow {σ σ' : Store} {sz : Nat} {l : AVal} {es : List AVal} {ps : List (List AVal)} (h : SRows σ sz l es ps) (g : Grows σ σ') : SRows σ' sz l es ps :=
  ⟨h.row.grow g, h.len, fun i e p h1 h2 => (h.one i e p h1 h2).grow g⟩
theorem SlOf.one {σ : Store} {sz : Nat} {v : AVal} {es : List AVal} (h : SlOf σ sz v es) : v.one = true := by
  rcases h.cases with ⟨rfl, rfl⟩ | ⟨t, full, rfl⟩ | ⟨id, ep, off, cap, sz', xs, epo, fl, rfl, _⟩ <;> rfl
theorem SRows.at {σ : Store} {sz : Nat} {l : AVal} {es : List AVal} {ps : List (List UInt8)} (h : SRows σ sz l es (ps.map B)) {i : Nat} (hi : i < ps.length) :
    ∃ e, iaddrV 1 l (.int .i64 i) = some (addrOf 1 l i) ∧ loadV σ 1 false (addrOf 1 l i) = some e ∧ SlOf σ sz e (B (ps[i])) := by
  have hl : i < es.length := by rw [h.len]; simpa using hi
  have ho := h.one i es[i] (B ps[i]) (List.getElem?_eq_getElem hl) (by simp [List.getElem?_eq_getElem hi])
  exact ⟨es[i], h.row.iaddr hl .i64, h.row.load1 hl ho.one 1, ho⟩
theorem SRows.take {σ : Store} {sz : Nat} {l : AVal} {es : List AVal} {ps : List (List AVal)} (h : SRows σ sz l es ps) {n : Nat} (hn : n ≤ ps.length) (k : IntKind) :
    ∃ l', sliceV 1 l none (some (.int k n)) none = some l' ∧ SRows σ sz l' (es.take n) (ps.take n) := by
  obtain ⟨l', h1, h2, _⟩ := h.row.sub_hi (hi := n) (by rw [h.len]; exact hn) k
  refine ⟨l', h1, h2, by simp [h.len], fun i e p he hp => ?_⟩
  rw [List.getElem?_take] at he hp
  split at he
  · rename_i hi
    rw [if_pos hi] at hp
    exact h.one i e p he hp
  · cases he

end Go.Proofs.Ytmocplkpnickgaa.Am
