/- Written anew, smaller, by a program of our own out of our texts. No condition of our own. -/
import Derived.Test.YtplgghjdidmcfaaGreatDoorQ45
import Derived.Test.YtplgghjdidmcfaaGreatDoorQ47
namespace Go.Proofs.YtplgghjdidmcfaaGreatDoor.lawDeskSays
open Go.RowKit
theorem proved:Rows.DeskSaysUptoCardSaid:=B7o fun s mx w hs ht hm hw0=>B2G s mx w hs ht hm hw0
end Go.Proofs.YtplgghjdidmcfaaGreatDoor.lawDeskSays
