/- Maps written, and appends. -/
import Derived.Test.YtmlkfgoiakcnhaaGreatDoorEvI
namespace Go.Proofs.YtmlkfgoiakcnhaaGreatDoor
open Go Go.RowKit

theorem ER.at_ {σ : Sg} : ∀ {l : List (EV × EV × Nat)} {m : List MapEntry} {i : Nat} {a v : EV} {b : Nat}, ER σ l m → l[i]? = some (a, v, b) → ∃ e, m[i]? = some e ∧ VR σ a e.key ∧ VR σ v e.val ∧ e.born = b
  | [], _, i, _, _, _, _, h => by simp at h
  | (x1, x2, x3) :: l, m, i, a, v, b, ⟨e, es', he, q1, q2, q3, q4⟩, h => by
    subst he
    cases i with
    | zero => simp at h; obtain ⟨rfl, rfl, rfl⟩ := h; exact ⟨e, rfl, q1, q2, q3⟩
    | succ i => simpa using ER.at_ q4 (by simpa using h)
theorem ER.set {σ : Sg} : ∀ {l : List (EV × EV × Nat)} {m : List MapEntry} (i : Nat) {a v : EV} {b : Nat} {e : MapEntry}, ER σ l m → VR σ a e.key → VR σ v e.val → e.born = b → ER σ (l.set i (a, v, b)) (m.set i e)
  | [], m, i, a, v, b, e, h, _, _, _ => by simp only [ER] at h; subst h; simp [ER]
  | (x1, x2, x3) :: l, m, i, a, v, b, e, ⟨e', es', he, q1, q2, q3, q4⟩, h1, h2, h3 => by
    subst he
    cases i with
    | zero => exact ⟨e, es', rfl, h1, h2, h3, q4⟩
    | succ i => exact ⟨e', es'.set i e, rfl, q1, q2, q3, ER.set i q4 h1 h2 h3⟩
theorem ER.snoc {σ : Sg} : ∀ {l : List (EV × EV × Nat)} {m : List MapEntry} {a v : EV} {b : Nat} {e : MapEntry}, ER σ l m → VR σ a e.key → VR σ v e.val → e.born = b → ER σ (l ++ [(a, v, b)]) (m ++ [e])
  | [], m, a, v, b, e, h, h1, h2, h3 => by simp only [ER] at h; subst h; exact ⟨e, [], rfl, h1, h2, h3, rfl⟩
  | (x1, x2, x3) :: l, m, a, v, b, e, ⟨e', es', he, q1, q2, q3, q4⟩, h1, h2, h3 => by
    subst he
    exact ⟨e', es' ++ [e], rfl, q1, q2, q3, ER.snoc q4 h1 h2 h3⟩
theorem ER.erase {σ : Sg} : ∀ {l : List (EV × EV × Nat)} {m : List MapEntry} (i : Nat), ER σ l m → ER σ (l.eraseIdx i) (m.eraseIdx i)
  | [], m, i, h => by simp only [ER] at h; subst h; simp [ER]
  | (x1, x2, x3) :: l, m, i, ⟨e', es', he, q1, q2, q3, q4⟩ => by
    subst he
    cases i with
    | zero => exact q4
    | succ i => exact ⟨e', es'.eraseIdx i, rfl, q1, q2, q3, ER.erase i q4⟩
theorem keyT_und {P : Program} {tab : Tab} (hT : TabOk P tab) {kt : TypeId} {key : EV} (hkt : keyT tab 20 kt key = true) : ∃ d, P.underlying kt = some d := by
  unfold keyT at hkt
  cases hi : tab.ty.get kt with
  | none => rw [hi] at hkt; cases hkt
  | some i => exact ⟨_, (hT.ty kt i hi).und⟩

section
variable {P : Program} {tab : Tab} {β : Type} {fail : β} {G : β → Prop} (hf : ¬ G fail)
include hf
omit hf in
/-- a map written -/
theorem Post.mk_map {fl : Nat} {σ : Sg} {h h' : Tr EO} {nx : Nat} {w w' : World} {b : Nat} {l l' : List (EV × EV × Nat)} {clock clock' : Nat} {ms : Array MapEntry} {lc : Loc} (H : Holds σ h w) (F : Fresh σ nx) (hfl : fl ≤ b) (hb : h.get b = some (.map l clock)) (hl : σ b = some lc)
    (hp : ∀ j, h'.get j = if j = b then some (.map l' clock') else h.get j) (he : ER σ l' ms.toList) (hheap : w'.heap = w.heap.setIfInBounds lc.blk (.map ms clock')) (hos : w'.os = w.os) (htape : w'.tape = w.tape) (hout : w'.output = w.output) : Post fl σ h nx w σ h' nx w' := by
  have hlt := H.lt (by rw [hb]; rfl) hl
  exact Post.mk_set H F hfl (by rw [hb]; rfl) hl hp (by rw [hheap]; simp [hlt]) (fun k hk => by rw [hheap, Array.getElem?_setIfInBounds, if_neg (fun e => hk e.symm)]) (by rw [hheap]; simp) hos htape hout ⟨ms, rfl, he⟩
omit hf in
theorem run_keyThatStays (old new : Value) (w : World) : ∃ k w', (Instr.keyThatStays old new).run P w = .ok k w' ∧ (k = new ∨ k = old) ∧ w'.heap = w.heap ∧ w'.os = w.os ∧ w'.tape = w.tape ∧ w'.output = w.output := by
  unfold Instr.keyThatStays
  split
  · exact ⟨new, w, rfl, .inl rfl, rfl, rfl, rfl, rfl⟩
  · simp only [Sem.run_bind, choose, Sem.run, Question.forced]
    simp only [show (decide (2 = 1)) = false from rfl, Bool.false_eq_true, if_false, Result.andThen_ok, Sem.run_pure]
    refine ⟨_, _, rfl, ?_, rfl, rfl, rfl, rfl⟩
    split
    · exact .inl rfl
    · exact .inr rfl
theorem mapUpdateE_spec (hT : TabOk P tab) {fl : Nat} {t : TypeId} {m key y : EV} {h : Tr EO} {nx : Nat} {k : Tr EO → β} {σ : Sg} {w : World} {m' key' y' : Value} (hg : G (mapUpdateE tab fail fl t m key y h k))
    (hm : VR σ m m') (hk : VR σ key key') (hy : VR σ y y') (H : Holds σ h w) (F : Fresh σ nx) : ∃ h' w', (Instr.mapUpdate t m' key' y').run P w = .ok () w' ∧ Post fl σ h nx w σ h' nx w' ∧ G (k h') := by
  unfold mapUpdateE at hg
  split at hg
  · rename_i b
    obtain ⟨kt, et, ei, hu, hty, hg⟩ := mapT_spec hf hT hg
    cases hkt : keyT tab 20 kt key with
    | false => simp only [hkt] at hg; exact absurd hg hf
    | true =>
      simp only [hkt, cond_true] at hg
      split at hg
      · rename_i l clock hb
        cases hue : updE tab kt key y clock l with
        | none => simp only [hue] at hg; exact absurd hg hf
        | some p =>
          obtain ⟨l', clock'⟩ := p
          simp only [hue] at hg
          obtain ⟨hfl, h', hp, hg2⟩ := setB_spec hf hg
          obtain ⟨lc, ob, h1, h2, ms, rfl, h4⟩ := H.there b _ hb
          simp only [VR] at hm
          obtain ⟨lc', h5, rfl⟩ := hm
          rw [h1] at h5; cases h5
          obtain ⟨d, hd⟩ := keyT_und hT hkt
          have hck : (Instr.checkKey false 10000 kt key').run P w = .ok () w := keyT_spec hT 20 kt key hkt false σ 10000 key' w (by omega) hk
          have hgo : (getObj lc.blk).run P w = .ok (.map ms clock) w := by simp [getObj, Sem.run, h2]
          have hso : ∀ (w1 : World) (o : Obj), w1.heap = w.heap → (setObj lc.blk o).run P w1 = .ok () { w1 with heap := w1.heap.setIfInBounds lc.blk o } := fun w1 o hw1 => by
            simp [setObj, Sem.run, hw1, h2]
          rcases updE_pos hue with ⟨hpos, rfl, rfl⟩ | ⟨i, v, bn, hpos, hli, rfl, rfl⟩
          · have hfk := findKey_spec hT hd hk w hpos h4
            simp only [keyAt, Option.bind_none] at hfk
            refine ⟨h', { w with heap := w.heap.setIfInBounds lc.blk (.map (ms.push { key := key', val := y', born := clock }) (clock + 1)) }, ?_, ?_, hg2⟩
            · simp only [Instr.mapUpdate, Sem.run_bind, run_underlying hu, Result.andThen_ok, hgo, hck, hfk]
              rw [hso w _ rfl]
            · refine Post.mk_map (ms := ms.push { key := key', val := y', born := clock }) H F hfl hb h1 hp ?_ rfl rfl rfl rfl
              rw [Array.toList_push]
              exact h4.snoc hk hy rfl
          · have hfk := findKey_spec hT hd hk w hpos h4
            obtain ⟨e, he, q1, q2, q3⟩ := h4.at_ hli
            simp only [keyAt, Option.bind_some, he, Option.map_some] at hfk
            rw [Array.getElem?_toList] at he
            obtain ⟨k', w1, r1, r2, r3, r4, r5, r6⟩ := run_keyThatStays (P := P) e.key key' w
            refine ⟨h', { w1 with heap := w1.heap.setIfInBounds lc.blk (.map (ms.modify i fun e => { e with key := k', val := y' }) clock') }, ?_, ?_, hg2⟩
            · simp only [Instr.mapUpdate, Sem.run_bind, run_underlying hu, Result.andThen_ok, hgo, hck, hfk, he, Option.map_some, Option.getD_some, r1]
              rw [hso w1 _ r3]
            · refine Post.mk_map (ms := ms.modify i fun e => { e with key := k', val := y' }) H F hfl hb h1 hp ?_ (by rw [r3]) r4 r5 r6
              have hmod : (ms.modify i fun e => { e with key := k', val := y' }).toList = ms.toList.set i { e with key := k', val := y' } := by
                apply List.ext_getElem?
                intro j
                have hlt : i < ms.size := (Array.getElem?_eq_some_iff.1 he).1
                rw [Array.getElem?_toList, Array.getElem?_modify, List.getElem?_set]
                by_cases e2 : i = j
                · subst e2
                  rw [if_pos rfl, if_pos rfl, he, if_pos (by simpa using hlt)]
                  rfl
                · rw [if_neg e2, if_neg e2, Array.getElem?_toList]
              rw [hmod]
              refine h4.set i ?_ hy q3
              rcases r2 with rfl | rfl
              · exact hk
              · exact q1
      · exact absurd hg hf
  · exact absurd hg hf
theorem deleteE_spec (hT : TabOk P tab) {fl : Nat} {t ty : TypeId} {m key : EV} {h : Tr EO} {nx : Nat} {k : Tr EO → β} {σ : Sg} {w : World} {m' key' : Value} {ts : Array TypeId} (hts : ts[0]? = some t) (hg : G (deleteE tab fail fl t m key h k))
    (hm : VR σ m m') (hk : VR σ key key') (H : Holds σ h w) (F : Fresh σ nx) : ∃ h' w', (Builtin.delete_ ts ty #[m', key']).run P w = .ok (.tuple #[]) w' ∧ Post fl σ h nx w σ h' nx w' ∧ G (k h') := by
  unfold deleteE at hg
  split at hg
  · rename_i b
    obtain ⟨kt, et, ei, hu, hty, hg⟩ := mapT_spec hf hT hg
    cases hkt : keyT tab 20 kt key with
    | false => simp only [hkt] at hg; exact absurd hg hf
    | true =>
      simp only [hkt, cond_true] at hg
      split at hg
      · rename_i l clock hb
        cases hue : delE tab kt key l with
        | none => simp only [hue] at hg; exact absurd hg hf
        | some l' =>
          simp only [hue] at hg
          obtain ⟨hfl, h', hp, hg2⟩ := setB_spec hf hg
          obtain ⟨lc, ob, h1, h2, ms, rfl, h4⟩ := H.there b _ hb
          simp only [VR] at hm
          obtain ⟨lc', h5, rfl⟩ := hm
          rw [h1] at h5; cases h5
          obtain ⟨d, hd⟩ := keyT_und hT hkt
          have hck : ∀ em, (Instr.checkKey em 10000 kt key').run P w = .ok () w := fun em => keyT_spec hT 20 kt key hkt em σ 10000 key' w (by omega) hk
          have hgo : (getObj lc.blk).run P w = .ok (.map ms clock) w := by simp [getObj, Sem.run, h2]
          have hso : ∀ (o : Obj), (setObj lc.blk o).run P w = .ok () { w with heap := w.heap.setIfInBounds lc.blk o } := fun o => by
            simp [setObj, Sem.run, h2]
          rcases delE_pos hue with ⟨hpos, rfl⟩ | ⟨i, hpos, hlt, rfl⟩
          · have hfk := findKey_spec hT hd hk w hpos h4
            simp only [keyAt, Option.bind_none] at hfk
            refine ⟨h', { w with heap := w.heap.setIfInBounds lc.blk (.map ms clock) }, ?_, ?_, hg2⟩
            · simp only [Builtin.delete_, hts, List.getElem?_toArray, List.getElem?_cons_zero, List.getElem?_cons_succ, Sem.run_bind, run_underlying hu, Result.andThen_ok, hgo, hck, hfk]
              rw [hso]
              rfl
            · exact Post.mk_map (ms := ms) H F hfl hb h1 hp h4 rfl rfl rfl rfl
          · have hfk := findKey_spec hT hd hk w hpos h4
            have hi : i < ms.toList.length := by rw [← h4.len]; exact hlt
            simp only [keyAt, Option.bind_some, List.getElem?_eq_getElem hi, Option.map_some] at hfk
            refine ⟨h', { w with heap := w.heap.setIfInBounds lc.blk (.map (ms.eraseIdxIfInBounds i) clock) }, ?_, ?_, hg2⟩
            · simp only [Builtin.delete_, hts, List.getElem?_toArray, List.getElem?_cons_zero, List.getElem?_cons_succ, Sem.run_bind, run_underlying hu, Result.andThen_ok, hgo, hck, hfk]
              rw [hso]
              rfl
            · refine Post.mk_map (ms := ms.eraseIdxIfInBounds i) H F hfl hb h1 hp ?_ rfl rfl rfl rfl
              have : (ms.eraseIdxIfInBounds i).toList = ms.toList.eraseIdx i := by
                rw [Array.toList_eraseIdxIfInBounds]
              rw [this]
              exact h4.erase i
      · exact absurd hg hf
  · exact absurd hg hf
end
end Go.Proofs.YtmlkfgoiakcnhaaGreatDoor
