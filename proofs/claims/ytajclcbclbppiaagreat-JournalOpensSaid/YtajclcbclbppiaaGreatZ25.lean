/-
  Both disks, and both journals: what the one does leaves the other's be.
  Files as an argument of the journal's law.
  The law's steps, plainly: what stays small; both disks and journals, a step of each.
-/
import Derived.Test.YtajclcbclbppiaaGreatZ24
import Derived.Test.YtajclcbclbppiaaGreatZ17
import Derived.Deep.Strs
import Derived.ProofKit
section
namespace Go.Proofs.YtajclcbclbppiaaGreat
open Go.RowKit Go.Maps Go.Dk Go.Rc Go.Jn Go.Shelf
variable {W w w' V : World} {O O' F G : Nat → Prop} {p q jl jr m : Nat} {S S' S2 T T' T2 : St} {J J' K K' : Jo} {f : FuncId} {args : Array Value} {R : Ending → Prop}
theorem Td.now (h : Td W O p q S T m w) : Td w O p q S T m w := by
  obtain ⟨β, G, h1, h2, h3, h4, h5, h6, h7⟩ := h
  exact ⟨β, G, h1, h2, Fr.refl _ _, h4, h5, h6, h7.mono h3.size⟩
/-- Both disks, as they are now; no failure is to come. -/
structure D2 (O : Nat → Prop) (p q : Nat) (S T : St) (w : World) : Prop where
  td : Td w O p q S T 1000 w
  fail : T.fail = none
/-- And the first one's journal. -/
structure J1 (O : Nat → Prop) (p q jl : Nat) (S T : St) (J : Jo) (w : World) : Prop where
  td : Td w (WithO O jl) p q S T 1000 w
  fail : T.fail = none
  j : JoAt w jl p J
  out : ¬ O jl
/-- And both journals. -/
structure J2 (O : Nat → Prop) (p q jl jr : Nat) (S T : St) (J K : Jo) (w : World) : Prop where
  td : Td w (WithO (WithO O jl) jr) p q S T 1000 w
  fail : T.fail = none
  j : JoAt w jl p J
  k : JoAt w jr q K
  outl : ¬ O jl
  outr : ¬ O jr
  ne : jl ≠ jr
theorem fr_ext {A : Nat → Prop} (hx : Ext w w') : Fr A w w' := (Fr.of_ext (F := fun _ => False) hx).mono (fun _ _ h => h.elim)
theorem D2.ext (h : D2 O p q S T w) (hx : Ext w w') : D2 O p q S T w' := ⟨(h.td.ext hx).now, h.fail⟩
theorem J2.ext (h : J2 O p q jl jr S T J K w) (hx : Ext w w') : J2 O p q jl jr S T J K w' := ⟨(h.td.ext hx).now, h.fail, h.j.ext hx, h.k.ext hx, h.outl, h.outr, h.ne⟩
theorem J1.ext (h : J1 O p q jl S T J w) (hx : Ext w w') : J1 O p q jl S T J w' := ⟨(h.td.ext hx).now, h.fail, h.j.ext hx, h.out⟩
/-- The first disk alone. -/
theorem Td.toL (h : Td w O p q S T m w) : ∃ G, Dp w (Both O G) p S w ∧ Under G w ∧ Apart O G ∧ ∀ w' S', Dp w (Both O G) p S' w' → Td w' O p q S' T m w' ∧ Fr (fun k => ¬ O k) w w' := by
  obtain ⟨β, G, h1, h2, _, h4, h5, h6, h7⟩ := h
  refine ⟨G, ⟨β, h1, Fr.refl _ _, fun k hk hb => hk.elim (fun h => h4 k h hb) (fun h => h6 k hb h), fun k hk => hk.elim (h7 k) (h2.under k)⟩, h2.under, h5, fun w' S' h' => ?_⟩
  obtain ⟨β', k1, k2, k3, _⟩ := h'
  exact ⟨⟨β', G, k1, h2.fr k2 (fun k hk hn => hn (.inr hk)), Fr.refl _ _, fun k hk => k3 k (.inl hk), h5, fun k hk hg => k3 k (.inr hg) hk, h7.mono k2.size⟩, k2.mono (fun k _ hn ho => hn (.inl ho))⟩
/-- The second disk alone. -/
theorem Td.toR (h : Td w O p q S T 1000 w) (hf : T.fail = none) : ∃ B, Rp w (Both O B) q T w ∧ Under B w ∧ Apart O B ∧ ∀ w' T', Rp w (Both O B) q T' w' → Td w' O p q S T' 1000 w' ∧ T'.fail = none ∧ Fr (fun k => ¬ O k) w w' := by
  obtain ⟨β, G, h1, h2, _, h4, h5, h6, h7⟩ := h
  refine ⟨Bl β, ⟨G, h2, hf, Fr.refl _ _, fun k hk hb => hk.elim (fun h => h5 k h hb) (fun h => h6 k h hb), fun k hk => hk.elim (h7 k) (h1.under k)⟩, h1.under, h4, fun w' T' h' => ?_⟩
  obtain ⟨G', k1, k2, k3, k4, _⟩ := h'
  exact ⟨⟨β, G', h1.fr k3 (fun k hk hn => hn (.inr hk)), k1, Fr.refl _ _, h4, fun k hk => k4 k (.inl hk), fun k hk => k4 k (.inr hk), h7.mono k3.size⟩, k2, k3.mono (fun k _ hn ho => hn (.inl ho))⟩
theorem D2.left (h : D2 O p q S T w) (hc : ∀ O2, Dp w O2 p S w → Calls Tryz.prog f args w fun x w' => R x ∧ Dp w O2 p S' w') :
    Calls Tryz.prog f args w fun x w' => R x ∧ D2 O p q S' T w' ∧ Fr (fun k => ¬ O k) w w' := by
  obtain ⟨G, h1, _, _, h2⟩ := h.td.toL
  exact (hc _ h1).mono fun x w' ⟨hx, hD⟩ => ⟨hx, ⟨(h2 _ _ hD).1, h.fail⟩, (h2 _ _ hD).2⟩
theorem D2.right (h : D2 O p q S T w) (hc : ∀ O2, Rp w O2 q T w → Calls Tryz.prog f args w fun x w' => R x ∧ Rp w O2 q T' w') :
    Calls Tryz.prog f args w fun x w' => R x ∧ D2 O p q S T' w' ∧ Fr (fun k => ¬ O k) w w' := by
  obtain ⟨B, h1, _, _, h2⟩ := h.td.toR h.fail
  exact (hc _ h1).mono fun x w' ⟨hx, hD⟩ => ⟨hx, ⟨(h2 _ _ hD).1, (h2 _ _ hD).2.1⟩, (h2 _ _ hD).2.2⟩
theorem J2.left (h : J2 O p q jl jr S T J K w) (hc : ∀ O2, Jp w O2 p jl S J w → Calls Tryz.prog f args w fun x w' => R x ∧ Jp w O2 p jl S' J' w') :
    Calls Tryz.prog f args w fun x w' => R x ∧ J2 O p q jl jr S' T J' K w' ∧ Fr (fun k => ¬ O k) w w' := by
  obtain ⟨β, G, g1, g2, _, g4, g5, g6, g7⟩ := h.td
  have hJ : Jp w (Both (WithO O jr) G) p jl S J w := ⟨⟨β, g1, Fr.refl _ _, fun k hk hb => by
      rcases hk with (hk | hk) | rfl
      · exact g4 k (hk.elim (fun a => .inl (.inl a)) .inr) hb
      · exact g6 k hb hk
      · exact g4 k (.inl (.inr rfl)) hb, fun k hk => by
      rcases hk with (hk | hk) | rfl
      · exact g7 k (hk.elim (fun a => .inl (.inl a)) .inr)
      · exact g2.under k hk
      · exact g7 k (.inl (.inr rfl))⟩, h.j, fun ho => by
      rcases ho with (hk | hk) | hk
      · exact h.outl hk
      · exact h.ne hk
      · exact g5 jl (.inl (.inr rfl)) hk, Fr.refl _ _, fun k hk => by
      rcases hk with hk | hk
      · exact g7 k (hk.elim (fun a => .inl (.inl a)) .inr)
      · exact g2.under k hk⟩
  refine (hc _ hJ).mono fun x w' ⟨hx, hD⟩ => ?_
  obtain ⟨β', k1, _, k3, _⟩ := hD.d
  have hfr := hD.fr
  exact ⟨hx, ⟨⟨β', G, k1, g2.fr hfr (fun k hk hn => hn (.inr hk)), Fr.refl _ _, fun k hk hb => by
      rcases hk with (hk | hk) | hk
      · exact k3 k (.inl (.inl (.inl hk))) hb
      · exact k3 k (.inr hk) hb
      · exact k3 k (.inl (.inl (.inr hk))) hb, g5, fun k hk hg => k3 k (.inl (.inr hg)) hk, g7.mono hfr.size⟩, h.fail, hD.j, h.k.fr hfr (fun hn => hn (.inl (.inr rfl))), h.outl, h.outr, h.ne⟩, hfr.mono (fun k _ hn ho => hn (.inl (.inl ho)))⟩
theorem J2.right (h : J2 O p q jl jr S T J K w) (hc : ∀ O2, Rj w O2 q jr T K w → Calls Tryz.prog f args w fun x w' => R x ∧ Rj w O2 q jr T' K' w') :
    Calls Tryz.prog f args w fun x w' => R x ∧ J2 O p q jl jr S T' J K' w' ∧ Fr (fun k => ¬ O k) w w' := by
  obtain ⟨β, G, g1, g2, _, g4, g5, g6, g7⟩ := h.td
  have hJ : Rj w (Both (WithO O jl) (Bl β)) q jr T K w := ⟨⟨G, g2, h.fail, Fr.refl _ _, fun k hk hb => by
      rcases hk with (hk | hk) | rfl
      · exact g5 k (.inl hk) hb
      · exact g6 k hk hb
      · exact g5 k (.inr rfl) hb, fun k hk => by
      rcases hk with (hk | hk) | rfl
      · exact g7 k (.inl hk)
      · exact g1.under k hk
      · exact g7 k (.inr rfl)⟩, h.k, fun ho => by
      rcases ho with (hk | hk) | hk
      · exact h.outr hk
      · exact h.ne hk.symm
      · exact g4 jr (.inr rfl) hk, Fr.refl _ _, fun k hk => by
      rcases hk with hk | hk
      · exact g7 k (.inl hk)
      · exact g1.under k hk⟩
  refine (hc _ hJ).mono fun x w' ⟨hx, hD⟩ => ?_
  obtain ⟨G', k1, k2, _, k4, _⟩ := hD.d
  have hfr := hD.fr
  exact ⟨hx, ⟨⟨β, G', g1.fr hfr (fun k hk hn => hn (.inr hk)), k1, Fr.refl _ _, g4, fun k hk hb => by
      rcases hk with hk | hk
      · exact k4 k (.inl (.inl hk)) hb
      · exact k4 k (.inr hk) hb, fun k hk hg => k4 k (.inl (.inr hk)) hg, g7.mono hfr.size⟩, k2, h.j.fr hfr (fun hn => hn (.inl (.inr rfl))), hD.j, h.outl, h.outr, h.ne⟩, hfr.mono (fun k _ hn ho => hn (.inl (.inl ho)))⟩
section
variable {snap : List UInt8} {l : List (List UInt8)}
theorem D2.openL (h : D2 O p q S T w) (hup : S.down = false) (hR : open_ S = ⟨S2, some J, snap, l, 0⟩) :
    Calls Tryz.prog 11 #[.pointer (some ⟨p, 0, none⟩)] w fun x w' => ∃ jl ao n cap, x = .returned (.tuple #[.pointer (some ⟨jl, 0, none⟩), .string (ofL snap), .slice ao n cap, .int .i64 0]) ∧ Ro w' ao n l ∧ J1 (WithRow O ao) p q jl S2 T J w' ∧ Fr (fun k => ¬ O k) w w' := by
  obtain ⟨β, G, g1, g2, _, g4, g5, g6, g7⟩ := h.td
  have hD : Dp w (Both O G) p S w := ⟨β, g1, Fr.refl _ _, fun k hk hb => hk.elim (fun h => g4 k h hb) (fun h => g6 k hb h), fun k hk => hk.elim (g7 k) (g2.under k)⟩
  refine (open_new hD hup hR).mono fun x w' ⟨jl, ao, n, cap, hx, _, hro, hJ, hF, _, hnew⟩ => ⟨jl, ao, n, cap, hx, hro, ?_, hF.mono (fun k _ hn ho => hn (.inl ho))⟩
  obtain ⟨β', k1, _, k3, k4⟩ := hJ.d
  exact ⟨⟨β', G, k1, g2.fr hF (fun k hk hn => hn (.inr hk)), Fr.refl _ _, fun k hk hb => by
      rcases hk with (hk | hk) | hk
      · exact k3 k (.inl (.inl (.inl hk))) hb
      · exact k3 k (.inl (.inr hk)) hb
      · exact k3 k (.inr hk) hb, fun k hk hg => by
      rcases hk with (hk | hk) | rfl
      · exact g5 k hk hg
      · have := hnew k hk; have := g2.under k hg; omega
      · exact hJ.out (.inl (.inr hg)), fun k hk hg => k3 k (.inl (.inl (.inr hg))) hk, fun k hk => by
      rcases hk with (hk | hk) | hk
      · exact k4 k (.inl (.inl (.inl hk)))
      · exact k4 k (.inl (.inr hk))
      · exact k4 k (.inr hk)⟩, h.fail, hJ.j, fun ho => hJ.out (ho.elim (fun a => .inl (.inl a)) .inr)⟩
theorem D2.noL (h : D2 O p q S T w) {e : Int} (hR : open_ S = ⟨S2, none, [], [], e⟩) :
    Calls Tryz.prog 11 #[.pointer (some ⟨p, 0, none⟩)] w fun x w' => x = .returned (.tuple #[.pointer none, .string (ofL []), .slice none 0 0, .int .i64 e]) ∧ D2 O p q S2 T w' ∧ Fr (fun k => ¬ O k) w w' :=
  h.left (R := fun x => x = .returned (.tuple #[.pointer none, .string (ofL []), .slice none 0 0, .int .i64 e])) (fun _ hD => open_bad hD hR)
theorem ropen_any (h : Rp W O q T w) (hup : T.down = false) : Calls Tryz.prog 12 #[.pointer (some ⟨q, 0, none⟩)] w (ROpenTo W O q (open_ T) w) := ropen_up h hup
theorem D2.noR (h : D2 O p q S T w) (hup : T.down = false) {e : Int} (hR : open_ T = ⟨T2, none, [], [], e⟩) :
    Calls Tryz.prog 12 #[.pointer (some ⟨q, 0, none⟩)] w fun x w' => x = .returned (.tuple #[.pointer none, .string (ofL []), .slice none 0 0, .int .i64 e]) ∧ D2 O p q S T2 w' ∧ Fr (fun k => ¬ O k) w w' := by
  refine h.right (R := fun x => x = .returned (.tuple #[.pointer none, .string (ofL []), .slice none 0 0, .int .i64 e])) (fun O2 hD => ?_)
  have C := ropen_any hD hup
  rw [hR] at C
  refine C.mono fun x w' hx => ?_
  rcases hx with ⟨_, h1, h2⟩ | ⟨_, _, _, _, _, h0, _⟩
  · exact ⟨h1, h2⟩
  · cases h0
theorem J1.openR (h : J1 O p q jl S T J w) (hup : T.down = false) (hR : open_ T = ⟨T2, some K, snap, l, 0⟩) :
    Calls Tryz.prog 12 #[.pointer (some ⟨q, 0, none⟩)] w fun x w' => ∃ jr ao n cap, x = .returned (.tuple #[.pointer (some ⟨jr, 0, none⟩), .string (ofL snap), .slice ao n cap, .int .i64 0]) ∧ Ro w' ao n l ∧ J2 O p q jl jr S T2 J K w' ∧ Fr (fun k => ¬ O k) w w' := by
  obtain ⟨β, G, g1, g2, _, g4, g5, g6, g7⟩ := h.td
  have hD : Rp w (Both (WithO O jl) (Bl β)) q T w := ⟨G, g2, h.fail, Fr.refl _ _, fun k hk hb => hk.elim (fun h => g5 k h hb) (fun h => g6 k h hb), fun k hk => hk.elim (g7 k) (g1.under k)⟩
  have C := ropen_any hD hup
  rw [hR] at C
  refine C.mono fun x w' hx => ?_
  rcases hx with ⟨h0, _⟩ | ⟨K1, jr, ao, n, cap, hK, hx, _, _, hro, hJ, hF, _, hnew⟩
  · cases h0
  obtain rfl : K = K1 := Option.some.inj hK
  refine ⟨jr, ao, n, cap, hx, hro, ?_, hF.mono (fun k _ hn ho => hn (.inl (.inl ho)))⟩
  obtain ⟨G', k1, k2, _, k4, k5⟩ := hJ.d
  exact ⟨⟨β, G', g1.fr hF (fun k hk hn => hn (.inr hk)), k1, Fr.refl _ _, fun k hk hb => by
      rcases hk with hk | rfl
      · exact g4 k hk hb
      · exact hJ.out (.inl (.inr hb)), fun k hk hg => by
      rcases hk with hk | hk
      · exact k4 k (.inl (.inl (.inl hk))) hg
      · exact k4 k (.inr hk) hg, fun k hk hg => k4 k (.inl (.inl (.inr hk))) hg, fun k hk => by
      rcases hk with hk | hk
      · exact k5 k (.inl (.inl (.inl hk)))
      · exact k5 k (.inr hk)⟩, k2, h.j.fr hF (fun hn => hn (.inl (.inr rfl))), hJ.j, h.out, fun ho => hJ.out (.inl (.inl (.inl ho))), fun e => hJ.out (.inl (.inl (.inr e.symm)))⟩
end
theorem D2.same (h : D2 O p q S S w) : Calls Tryz.prog 14 #[.pointer (some ⟨p, 0, none⟩), .pointer (some ⟨q, 0, none⟩)] w fun e w' => e = .returned (.bool true) ∧ D2 O p q S S w' ∧ Fr (fun k => ¬ O k) w w' :=
  (same_yes h.td).mono fun _ _ ⟨hx, hT⟩ => ⟨hx, ⟨hT.now, h.fail⟩, hT.fr⟩
theorem J2.same (h : J2 O p q jl jr S S J K w) : Calls Tryz.prog 14 #[.pointer (some ⟨p, 0, none⟩), .pointer (some ⟨q, 0, none⟩)] w fun e w' => e = .returned (.bool true) ∧ J2 O p q jl jr S S J K w' ∧ Fr (fun k => ¬ O k) w w' :=
  (same_yes h.td).mono fun _ _ ⟨hx, hT⟩ => ⟨hx, ⟨hT.now, h.fail, h.j.fr hT.fr (fun hn => hn (.inl (.inr rfl))), h.k.fr hT.fr (fun hn => hn (.inr rfl)), h.outl, h.outr, h.ne⟩, hT.fr.mono (fun _ _ hn ho => hn (.inl (.inl ho)))⟩
end Go.Proofs.YtajclcbclbppiaaGreat
end
section
namespace Go.Jn
/-- A file of the law. -/
structure Jf where
  n : Int
  b : List UInt8
/-- Its cells. -/
def Jfc (a : Jf) : List Value := [.int .i64 a.n, .string (ofL a.b)]
instance : Inhabited Jf := ⟨⟨0, []⟩⟩
end Go.Jn
namespace Go.Proofs.YtajclcbclbppiaaGreat
open Go.ChangeShapes Go.WideShapes Go.RowKit Go.Deep Go.Dk Go.Jn
theorem cellsFile : Tryz.prog.cellsOf 32 = 2 := by kernel_rfl
theorem cellsIntF : Tryz.prog.cellsOf 3 = 1 := by kernel_rfl
theorem cellsStrF : Tryz.prog.cellsOf 9 = 1 := by kernel_rfl
def JfOk (a : Jf) : Prop := -9223372036854775808 ≤ a.n ∧ a.n ≤ 9223372036854775807
section
variable {H : Type} {enc : TypeId × Value → H} {w : World} {base : Nat} {sp : Nat → Bool} {held : Bool}
set_option maxRecDepth 100000 in
theorem open_file {fuel : Nat} {cs : List Value} {x : DataW H × List MemPlace} (h : DataW.trod enc Tryz.prog w base sp held fuel 32 cs = some x) : ∃ a : Jf, cs = Jfc a ∧ JfOk a := by
  obtain ⟨xs, k, _, _, hlen, hxl, hf⟩ := DataW.trod_struct Tryz.underlying32 h
  rw [cellsFile] at hlen
  match cs, hlen, xs, hxl with
  | [v0, v1], _, [y0, y1], _ =>
    have g0 := hf 0 _ rfl
    have g1 := hf 1 _ rfl
    simp [cellsIntF, cellsStrF] at g0 g1
    obtain ⟨n, h1, _, h3⟩ := DataW.trod_int Tryz.underlying3 g0
    simp only [List.cons.injEq, and_true] at h1
    subst h1
    obtain ⟨s, hs, _, hl⟩ := DataW.trod_string Tryz.underlying9 g1
    simp only [List.cons.injEq, and_true] at hs
    subst hs
    exact ⟨⟨n, s.data.toList⟩, rfl, bounds_i64 h3⟩
/-- A row of files, told by its cells. -/
def Files (w : World) (v : Value) (l : List Jf) : Prop :=
  (∀ a ∈ l, JfOk a) ∧ l.length ≤ maxLen ∧ ((∃ ao cap, v = .slice ao 0 cap ∧ l = []) ∨
    ∃ g o cap, v = .slice (some ⟨g, o, none⟩) l.length cap ∧ 0 < l.length ∧ g < w.heap.size ∧ ∀ i (h : i < l.length) j, j < 2 → w.cell? ⟨g, o + i * 2 + j, none⟩ = (Jfc l[i])[j]?)
set_option maxRecDepth 100000 in
theorem open_files {fuel : Nat} {cs : List Value} {x : DataW H × List MemPlace} (h : DataW.trod enc Tryz.prog w base sp held fuel 22 cs = some x) : ∃ v l, cs = [v] ∧ Files w v l := by
  rcases open_slice Tryz.underlying22 h with ⟨rfl, _⟩ | ⟨a, len, cap, m, n, D, Pl, rfl, hb, hl, hm, hmm, rfl, hx⟩
  · exact ⟨_, [], rfl, fun _ h => (by cases h), by simp, .inl ⟨_, _, rfl, rfl⟩⟩
  have hlm : len ≤ m := by rw [hmm]; split <;> omega
  have each : ∀ i, i < len → ∃ q : Jf, (∀ j, j < 2 → w.cell? (a.add (i * 2 + j)) = (Jfc q)[j]?) ∧ JfOk q := by
    intro i hi
    obtain ⟨cs', h1, h2⟩ := hx i (by omega)
    rw [cellsFile] at h1
    obtain ⟨_, hlen, hcell⟩ := World.cells?_some h1
    obtain ⟨q, rfl, hq⟩ := open_file h2
    refine ⟨q, fun j hj => ?_, hq⟩
    have := hcell j hj
    rw [add_add] at this
    exact this
  obtain ⟨q, hq⟩ := choose_lt each
  refine ⟨_, (List.range len).map q, rfl, fun b hb => ?_, by simp; omega, ?_⟩
  · obtain ⟨i, hi, rfl⟩ := List.mem_map.1 hb
    exact (hq i (List.mem_range.1 hi)).2
  · rcases Nat.eq_zero_or_pos len with rfl | hpos
    · exact .inl ⟨_, _, rfl, rfl⟩
    · right
      have h0 := (hq 0 hpos).1 0 (by omega)
      obtain ⟨g, o, sp'⟩ := a
      have hsp : sp' = none := by
        have h0' : w.cell? ((⟨g, o, sp'⟩ : Addr).add (0 * 2 + 0)) = some (.int .i64 (q 0).n) := h0
        simpa [Addr.add] using World.cell?_spot h0'
      subst hsp
      have hadd : ∀ k, (⟨g, o, none⟩ : Addr).add k = ⟨g, o + k, none⟩ := fun k => by unfold Addr.add; split <;> simp_all
      have hg : g < w.heap.size := by
        have h0' : w.cell? ⟨g, o + 0, none⟩ = some (.int .i64 (q 0).n) := by rw [← hadd]; exact h0
        rcases Nat.lt_or_ge g w.heap.size with h | h
        · exact h
        · simp only [World.cell?, Array.getElem?_eq_none h] at h0'
          cases h0'
      refine ⟨g, o, cap, by simp, by simpa using hpos, hg, fun i hi j hj => ?_⟩
      have hi' : i < len := by simpa using hi
      have := (hq i hi').1 j hj
      rw [hadd] at this
      rw [Nat.add_assoc, this]
      simp
set_option maxRecDepth 100000 in
/-- Files as an argument. -/
theorem open_files_arg {r : Reach} {b0 : Nat} {v : Value} {d : DataW H} {ps : List MemPlace} (hval : Value.okWide Tryz.prog w r b0 22 v) (h : DataW.Trod enc Tryz.prog w base sp held 22 v d ps) : ∃ l, Files w v l := by
  obtain ⟨n, hn⟩ := h
  obtain ⟨u, l, h1, h2⟩ := open_files hn
  have : v = u := by
    cases v <;> simp only [Value.cells, List.cons.injEq, and_true] at h1 <;> first | exact h1 | skip
    simp [Value.okWide, Cell.okWide, Tryz.underlying22, Cell.ok] at hval
  rw [this]; exact ⟨l, h2⟩
end
/-- A row of files at a place: its two cells, whatever has been added since. -/
theorem Files.at {w : World} {ao : Option Addr} {n cap : Nat} {l : List Jf} (h : Files w (.slice ao n cap) l) (hn : l.length = n) (i : Nat) (hi : i < l.length) : ∃ g o, ao = some ⟨g, o, none⟩ ∧ g < w.heap.size ∧ ∀ w', Ext w w' → w'.cell? ⟨g, o + i * 2, none⟩ = some (.int .i64 l[i].n) ∧ w'.cell? ⟨g, o + i * 2 + 1, none⟩ = some (.string (ofL l[i].b)) := by
  rcases h.2.2 with ⟨_, _, _, hnil⟩ | ⟨g, o, c2, hve, hpos, hg, hc⟩
  · subst hnil; simp at hi
  · simp only [Value.slice.injEq] at hve
    exact ⟨g, o, hve.1, hg, fun w' hx => ⟨(hx.cell (p := ⟨g, o + i * 2 + 0, none⟩) hg).trans (hc i hi 0 (by decide)), (hx.cell (p := ⟨g, o + i * 2 + 1, none⟩) hg).trans (hc i hi 1 (by decide))⟩⟩
end Go.Proofs.YtajclcbclbppiaaGreat
end
section
namespace Go.Jn
open Go.Dk Go.Rc
variable {S S' S2 : St} {J J' : Jo} {x : List UInt8} {e : Int}
theorem chg_down {S1 : St} {early : Bool} (h : S.fail = none) : (chg S S1 early).1.down = S1.down := by
  unfold chg
  rw [h]
theorem create_down (h : S.fail = none) (n : Int) : (create S n).1.down = S.down := by
  unfold create
  repeat' split
  all_goals first | rfl | exact chg_down h
theorem append_down (h : S.fail = none) (n : Int) (s : List UInt8) : (append S n s).1.down = S.down := by
  unfold append
  repeat' split
  all_goals first | rfl | exact chg_down h
/-- Open leads to a journal, or to none. -/
theorem open_cases (S : St) : (∃ S2 J snap l, open_ S = ⟨S2, some J, snap, l, 0⟩) ∨ (∃ S2 e, open_ S = ⟨S2, none, [], [], e⟩) := by
  unfold open_
  split
  · exact .inr ⟨_, _, rfl⟩
  · split
    · dsimp only
      split
      · exact .inl ⟨_, _, _, _, rfl⟩
      · exact .inr ⟨_, _, rfl⟩
    · split
      · exact .inr ⟨_, _, rfl⟩
      · dsimp only
        split
        · exact .inl ⟨_, _, _, _, rfl⟩
        · exact .inr ⟨_, _, rfl⟩
theorem pick_spec : ∀ {l : List Fl} {f : Fl}, pick l = some f → f ∈ l ∧ itsAt f.b 0 ≠ []
  | [], f, h => by cases h
  | g :: r, f, h => by
    unfold pick at h
    cases hp : pick r with
    | some y =>
      rw [hp] at h
      obtain rfl : y = f := Option.some.inj h
      exact ⟨.tail _ (pick_spec hp).1, (pick_spec hp).2⟩
    | none =>
      rw [hp] at h
      dsimp only at h
      by_cases h0 : itsAt g.b 0 = []
      · rw [if_pos h0] at h; cases h
      · rw [if_neg h0] at h
        obtain rfl : g = f := Option.some.inj h
        exact ⟨.head _, h0⟩
/-- A journal's numbers behind an Open. -/
structure Sm (J : Jo) : Prop where
  n0 : 0 ≤ J.n
  n1 : J.n ≤ 9223372036854775807
  s0 : 0 ≤ J.size
  s1 : J.size ≤ 1048576
  m0 : 0 ≤ J.many
  m1 : J.many ≤ 1048576
theorem open_small (hok : Ok S) {snap : List UInt8} {l : List (List UInt8)} (h : open_ S = ⟨S2, some J, snap, l, 0⟩) : Sm J ∧ l.length ≤ 1048576 := by
  unfold open_ at h
  split at h
  · cases h
  · split at h
    · next f hf =>
      obtain ⟨hm, hne⟩ := pick_spec hf
      have h1 := hok.names f hm
      have h2 := (front_row f.b).1
      have h3 := tot_mem hm
      have h4 := hok.tot
      have h5 := hok.cap1
      have h6 := itsAt_length f.b 0
      have h7 : 0 < (itsAt f.b 0).length := List.length_pos_iff.2 hne
      have h8 : (pays f.b).length = (itsAt f.b 0).length := by unfold pays; rw [List.length_map]
      dsimp only at h
      split at h
      · simp only [Op.mk.injEq, Option.some.injEq] at h
        obtain ⟨_, rfl, _, rfl, _⟩ := h
        refine ⟨⟨h1.1, h1.2, by show (0 : Int) ≤ ((endOf (itsAt f.b 0) : Nat) : Int); omega, by show ((endOf (itsAt f.b 0) : Nat) : Int) ≤ _; omega, by show (0 : Int) ≤ ((itsAt f.b 0).length : Int) - 1; omega, by show ((itsAt f.b 0).length : Int) - 1 ≤ _; omega⟩, ?_⟩
        rw [List.length_tail]; omega
      · cases h
    · split at h
      · cases h
      · dsimp only at h
        split at h
        · simp only [Op.mk.injEq, Option.some.injEq] at h
          obtain ⟨_, rfl, _, rfl, _⟩ := h
          exact ⟨⟨by show (0 : Int) ≤ 0; omega, by show (0 : Int) ≤ _; omega, by show (0 : Int) ≤ 8; omega, by show (8 : Int) ≤ _; omega, by show (0 : Int) ≤ 0; omega, by show (0 : Int) ≤ _; omega⟩, by simp⟩
        · cases h
theorem append_n (h : appendJ S J x = (S', J', e)) : J'.n = J.n ∧ (J'.size = J.size ∨ J'.size = J.size + (x.length + 8)) ∧ (J'.many = J.many ∨ J'.many = J.many + 1) := by
  unfold appendJ at h
  repeat' split at h
  all_goals (simp only [Prod.mk.injEq] at h; obtain ⟨_, rfl, _⟩ := h)
  · exact ⟨rfl, .inl rfl, .inl rfl⟩
  · exact ⟨rfl, .inl rfl, .inl rfl⟩
  · exact ⟨rfl, .inl rfl, .inl rfl⟩
  · unfold told
    dsimp only
    split
    · exact ⟨rfl, .inr rfl, .inr rfl⟩
    · exact ⟨rfl, .inl rfl, .inl rfl⟩
/-- The number behind the greatest. -/
theorem next_n (n : Int) (h0 : 0 ≤ n) (h1 : n ≤ 9223372036854775807) : (Lit.int .i64 (IntKind.i64.wrap (n + 1))).wf = true := by
  rcases Int.lt_or_le n 9223372036854775807 with h | h
  · rw [IntWalk.i64_in (n + 1) ⟨by omega, by omega⟩]
    exact Go.Proofs.YtajclcbclbppiaaGreat.wf_of ⟨by omega, by omega⟩
  · obtain rfl : n = 9223372036854775807 := by omega
    decide
end Go.Jn
namespace Go.Proofs.YtajclcbclbppiaaGreat
open Go.RowKit Go.Maps Go.Dk Go.Rc Go.Jn Go.Shelf
variable {W w w' w1 w2 V : World} {O O' F G : Nat → Prop} {p q jl jr m : Nat} {S S' S2 T T' T2 : St} {J J' K K' : Jo} {f : FuncId} {args : Array Value} {e : Int} {x : List UInt8}
theorem Sm.small (h : Sm J) : Small J := ⟨h.n0, h.n1, h.s0, by have := h.s1; omega, h.m0, by have := h.m1; omega⟩
theorem Sm.append (h : Sm J) (hx : x.length ≤ 3000) (hr : appendJ S J x = (S', J', e)) : Small J' := by
  obtain ⟨h1, h2, h3⟩ := append_n hr
  have := h.n0; have := h.n1; have := h.s0; have := h.s1; have := h.m0; have := h.m1
  refine ⟨by omega, by omega, ?_, ?_, ?_, ?_⟩ <;> omega
theorem D2.new (h : Dp w (Old w) p S w1) (k : Rp w1 (Old w1) q S w2) (hx : Ext w1 w2) : D2 (Old w) p q S S w2 := by
  obtain ⟨β, h1, h2, h3, h4⟩ := h
  obtain ⟨G, k1, k2, _, k4, _⟩ := k
  have hs := h2.size
  exact ⟨⟨β, G, h1.ext hx, k1, Fr.refl _ _, h3, fun i hi => k4 i (show i < w1.heap.size from Nat.lt_of_lt_of_le hi hs), fun i hi => k4 i (h1.under i hi), fun i hi => Nat.lt_of_lt_of_le hi (Nat.le_trans hs hx.size)⟩, k2⟩
theorem D2.up (h : D2 O p q S S w) : Ok S := h.td.ok
theorem d_create (h : D2 O p q S T w) {n : Int} (hn : (Lit.int .i64 n).wf = true) (hr : Dk.create S n = (S', e)) :
    Calls Tryz.prog 7 #[.pointer (some ⟨p, 0, none⟩), .int .i64 n] w fun x w' => x = .returned (.int .i64 e) ∧ D2 O p q S' T w' ∧ Fr (fun k => ¬ O k) w w' :=
  h.left (R := fun x => x = .returned (.int .i64 e)) (fun _ hD => k_create hD hn hr)
theorem d_append (h : D2 O p q S T w) {n : Int} (hn : (Lit.int .i64 n).wf = true) {s : List UInt8} (hr : Dk.append S n s = (S', e)) :
    Calls Tryz.prog 9 #[.pointer (some ⟨p, 0, none⟩), .int .i64 n, .string (ofL s)] w fun x w' => x = .returned (.int .i64 e) ∧ D2 O p q S' T w' ∧ Fr (fun k => ¬ O k) w w' :=
  h.left (R := fun x => x = .returned (.int .i64 e)) (fun _ hD => k_append hD hn hr)
theorem d_rcreate (h : D2 O p q S T w) {n : Int} (hn : (Lit.int .i64 n).wf = true) (hr : Dk.create T n = (T', e)) :
    Calls Tryz.prog 8 #[.pointer (some ⟨q, 0, none⟩), .int .i64 n] w fun x w' => x = .returned (.int .i64 e) ∧ D2 O p q S T' w' ∧ Fr (fun k => ¬ O k) w w' :=
  h.right (R := fun x => x = .returned (.int .i64 e)) (fun _ hD => (r_create hD hn hr).mono fun _ _ ⟨a, b, _⟩ => ⟨a, b⟩)
theorem d_rappend (h : D2 O p q S T w) {n : Int} {s : List UInt8} (hr : Dk.append T n s = (T', e)) :
    Calls Tryz.prog 10 #[.pointer (some ⟨q, 0, none⟩), .int .i64 n, .string (ofL s)] w fun x w' => x = .returned (.int .i64 e) ∧ D2 O p q S T' w' ∧ Fr (fun k => ¬ O k) w w' :=
  h.right (R := fun x => x = .returned (.int .i64 e)) (fun _ hD => (r_append hD n s hr).mono fun _ _ ⟨a, b, _⟩ => ⟨a, b⟩)
theorem j_append (h : J2 O p q jl jr S T J K w) (hsm : Small J) (hx : x.length ≤ 3000) (hr : appendJ S J x = (S', J', e)) :
    Calls Tryz.prog 15 #[.pointer (some ⟨jl, 0, none⟩), .string (ofL x)] w fun x w' => x = .returned (.int .i64 e) ∧ J2 O p q jl jr S' T J' K w' ∧ Fr (fun k => ¬ O k) w w' :=
  h.left (R := fun x => x = .returned (.int .i64 e)) (fun _ hD => append_j hD hsm (by omega) hr)
theorem j_rappend (h : J2 O p q jl jr S T J K w) (hsm : Small K) (hx : x.length ≤ 3000) (hr : appendJ T K x = (T', K', e)) :
    Calls Tryz.prog 16 #[.pointer (some ⟨jr, 0, none⟩), .string (ofL x)] w fun x w' => x = .returned (.int .i64 e) ∧ J2 O p q jl jr S T' J K' w' ∧ Fr (fun k => ¬ O k) w w' :=
  h.right (R := fun x => x = .returned (.int .i64 e)) (fun _ hD => rj_append hD hsm (by omega) hr)
theorem j_compact (h : J2 O p q jl jr S T J K w) (hsm : Small J) {t : Int} (ht : IntKind.i64.wrap (J.n + 1) = t) (hwf : (Lit.int .i64 t).wf = true) (hx : x.length ≤ 3000) (hr : compactN S J x t = (S', J', e)) :
    Calls Tryz.prog 17 #[.pointer (some ⟨jl, 0, none⟩), .string (ofL x)] w fun x w' => x = .returned (.int .i64 e) ∧ J2 O p q jl jr S' T J' K w' ∧ Fr (fun k => ¬ O k) w w' :=
  h.left (R := fun x => x = .returned (.int .i64 e)) (fun _ hD => compact_n hD hsm ht hwf (by omega) hr)
theorem j_rcompact (h : J2 O p q jl jr S T J K w) {t : Int} (ht : IntKind.i64.wrap (K.n + 1) = t) (hwf : (Lit.int .i64 t).wf = true) (hx : x.length ≤ 3000) (hr : compactN T K x t = (T', K', e)) :
    Calls Tryz.prog 18 #[.pointer (some ⟨jr, 0, none⟩), .string (ofL x)] w fun x w' => x = .returned (.int .i64 e) ∧ J2 O p q jl jr S T' J K' w' ∧ Fr (fun k => ¬ O k) w w' :=
  h.right (R := fun x => x = .returned (.int .i64 e)) (fun _ hD => rj_compact hD ht hwf (by omega) hr)
theorem J2.any (h : J2 O p q jl jr S T J K w) : ∃ O2, Jp w O2 p jl S J w := by
  obtain ⟨β, G, g1, g2, _, g4, g5, g6, g7⟩ := h.td
  exact ⟨O, ⟨β, g1, Fr.refl _ _, fun k hk hb => g4 k (.inl hk) hb, fun k hk => g7 k (.inl hk)⟩, h.j, h.outl, Fr.refl _ _, fun k hk => g7 k (.inl (.inl hk))⟩
theorem j_size (h : J2 O p q jl jr S T J K w) {z : Int} (hz : J.size = z) :
    Calls Tryz.prog 19 #[.pointer (some ⟨jl, 0, none⟩)] w fun x w' => x = .returned (.int .i64 z) ∧ w = w' := by
  obtain ⟨_, hJ⟩ := h.any
  exact jsize_is hJ hz
theorem j_entries (h : J2 O p q jl jr S T J K w) {z : Int} (hz : J.many = z) :
    Calls Tryz.prog 20 #[.pointer (some ⟨jl, 0, none⟩)] w fun x w' => x = .returned (.int .i64 z) ∧ w = w' := by
  obtain ⟨_, hJ⟩ := h.any
  exact jentries_is hJ hz
/-- Of what there was nothing has turned. -/
theorem olds (hx : Ext w w1) (hf : Fr (fun k => ¬ O k) w1 w2) (hO : ∀ k, Old w k → O k) : Ext w w2 :=
  Fr.ext hx hf (fun k hk => by
    rcases Nat.lt_or_ge k w.heap.size with h | h
    · exact absurd (hO k h) hk
    · exact h)
end Go.Proofs.YtajclcbclbppiaaGreat
end
