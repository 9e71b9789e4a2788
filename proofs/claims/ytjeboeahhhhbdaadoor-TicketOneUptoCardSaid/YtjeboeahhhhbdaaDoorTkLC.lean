/- The law TicketTurned, and the laid values: joined. -/
import Derived.Test.YtjeboeahhhhbdaaDoorTkLB
import Derived.Test.YtjeboeahhhhbdaaDoorTkH
